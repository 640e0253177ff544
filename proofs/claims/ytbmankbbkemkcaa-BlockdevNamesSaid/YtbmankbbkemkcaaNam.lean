/- BlockdevNames: its calls, one by one. -/
import Derived.Test.YtbmankbbkemkcaaAliv
namespace Go.Proofs.Ytbmankbbkemkcaa
open Go.RowKit Go.Shelf

def n1 : Dv := a0.setPlan 2
def n2 : Dv := n1.write 0 (rp 97)
def n3 : Dv := n2.write 0 (rp 98)
def cN : Cr := ⟨[2], -1, 0⟩
def n4 : Dv := n3.restarted cN
def mk (k : Nat) : Dv := { safe := n4.safe, cache := List.replicate k (3, rp 99), plan := 0, down := false, calls := 2 + k }
def n5 : Dv := (mk 256).flush
def n6 : Dv := n5.write 3 (rp 100)
def n7 : Dv := n6.setPlan 1
def n8 : Dv := n7.flush

theorem n4_safe : n4.safe.length = 4 := by decide +kernel
theorem n4_mk : n4 = mk 0 := by kernel_rfl
theorem mk_up (k : Nat) : (mk k).up 3 = 0 := by
  unfold Dv.up mk
  simp [n4_safe]
theorem mk_writeE (k : Nat) (hk : k < 256) : (mk k).writeE 3 (rp 99).length = 0 := by
  unfold Dv.writeE
  rw [mk_up, rp_len]
  simp [mk]; omega
theorem tick_of {D : Dv} (h : D.plan ≠ 1) : D.tick = { D with calls := D.calls + 1, plan := D.plan - 1 } := if_neg h
theorem mk_write (k : Nat) (hk : k < 256) : (mk k).write 3 (rp 99) = mk (k + 1) := by
  unfold Dv.write
  rw [mk_up, rp_len]
  rw [if_neg (by simp [mk]; omega)]
  rw [tick_of (show (0 : Nat) ≠ 1 by decide)]
  simp only [mk, List.replicate_succ', Dv.mk.injEq, true_and, and_true, Nat.zero_sub, Nat.add_assoc]
  rw [show Int.toNat 3 = 3 from rfl]

/-- what a call hands back: an error's number; the device after it -/
abbrev CR (w₀ : World) (p : Nat) (r : Int) (D : Dv) (w : World) : Ending → World → Prop := fun e w' => e = .returned (.int .i64 r) ∧ DV w₀ w' p D ∧ KT w w'
abbrev Rw (w : World) (g : Nat) (c : UInt8) : Prop := w.heap[g]? = some (.cells (bys (rp c)).toArray 5 (0, 0))
abbrev pp (p : Nat) : Value := .pointer (some ⟨p, 0, none⟩)
abbrev sl (g : Nat) : Value := .slice (some ⟨g, 0, none⟩) 128 128

section
variable {w₀ w : World} {p g : Nat}
theorem nr1 (h : DV w₀ w p a0) : Calls Try.prog 19 #[pp p, .agg #[.slice none 0 0, .int .i64 0, .int .i64 0]] w (CR w₀ p 2 a0 w) := restartUpR h rfl _ _ _ _ _
theorem nw1 (h : DV w₀ w p a0) (hg : Rw w g 97) : Calls Try.prog 13 #[pp p, .int .i64 4, sl g] w (CR w₀ p 121 a0 w) := writeRow h hg (rp_len 97) a0c.1 (by kernel_rfl) (by kernel_rfl)
theorem nw2 (h : DV w₀ w p a0) (hg : Rw w g 97) : Calls Try.prog 13 #[pp p, .int .i64 0, .slice (some ⟨g, 1, none⟩) 127 127] w (CR w₀ p 2 a0 w) :=
  writeR h (b := List.replicate 127 97) (.inl ⟨⟨g, 1, none⟩, 127, rfl, (Array.getElem?_eq_some_iff.1 hg).1, fun j u hj => by
    rw [Addr.add_mid', cell_of_row _ _ _ _ _ _ hg]
    simp only [bys, List.map_replicate, List.getElem?_replicate] at hj
    simp only [bys, rp, List.map_replicate, List.getElem?_toArray, List.getElem?_replicate]
    split at hj
    · rw [if_pos (by omega)]; exact hj
    · cases hj⟩) (by simp [Value.ownBlock]; exact h.ne hg) a0c.1 (by kernel_rfl) (by kernel_rfl)
theorem np1 (h : DV w₀ w p a0) : Calls Try.prog 21 #[pp p, .int .i64 (-1)] w (CR w₀ p 2 a0 w) := planR h (by omega) (by kernel_rfl) (by kernel_rfl)
theorem np2 (h : DV w₀ w p a0) : Calls Try.prog 21 #[pp p, .int .i64 2] w (CR w₀ p 0 n1 w) := planR h (by omega) (by kernel_rfl) (by kernel_rfl)
theorem nw3 (h : DV w₀ w p n1) (hg : Rw w g 97) : Calls Try.prog 13 #[pp p, .int .i64 0, sl g] w (CR w₀ p 0 n2 w) := writeRow h hg (rp_len 97) (by decide +kernel) (by kernel_rfl) (by kernel_rfl)
theorem nw4 (h : DV w₀ w p n2) (hg : Rw w g 98) : Calls Try.prog 13 #[pp p, .int .i64 0, sl g] w (CR w₀ p 120 n3 w) := writeRow h hg (rp_len 98) (by decide +kernel) (by kernel_rfl) (by kernel_rfl)
theorem nd3 (h : DV w₀ w p n3) : Calls Try.prog 22 #[pp p] w fun e w' => e = .returned (.bool true) ∧ w = w' := downR h (by kernel_rfl)
theorem nrd3 (h : DV w₀ w p n3) : Calls Try.prog 16 #[pp p, .int .i64 0] w fun e w' => e = .returned (.tuple #[.slice none 0 0, .int .i64 120]) ∧ DV w₀ w' p n3 ∧ KT w w' := readErrR h (by kernel_rfl) (by decide)
theorem nf3 (h : DV w₀ w p n3) : Calls Try.prog 15 #[pp p] w (CR w₀ p 120 n3 w) := flushR h (by decide +kernel) (by kernel_rfl) (by kernel_rfl)
theorem np3 (h : DV w₀ w p n3) : Calls Try.prog 21 #[pp p, .int .i64 1] w (CR w₀ p 120 n3 w) := planR h (by omega) (by kernel_rfl) (by kernel_rfl)
theorem nw5 (h : DV w₀ w p n3) : Calls Try.prog 13 #[pp p, .int .i64 9, .slice none 0 0] w (CR w₀ p 120 n3 w) := writeR h (b := []) (.inr ⟨rfl, rfl⟩) (by simp [Value.ownBlock]) (by decide +kernel) (by kernel_rfl) (by kernel_rfl)
theorem nr3 {c : Nat} (h : DV w₀ w p n3) (hg : w.heap[g]? = some (.cells #[.int .u8 2] 5 (0, 0))) : Calls Try.prog 19 #[pp p, .agg #[.slice (some ⟨g, 0, none⟩) 1 c, .int .i64 (-1), .int .i64 0]] w (CR w₀ p 0 n4 w) :=
  restartR h (by kernel_rfl) cN rfl (.inl ⟨⟨g, 0, none⟩, c, rfl, (Array.getElem?_eq_some_iff.1 hg).1, fun j u hj => by
    match j, hj with
    | 0, hj => rw [show (⟨g, 0, none⟩ : Addr).add 0 = ⟨g, 0, none⟩ from by simp [Addr.add], cell_of_row _ _ _ _ _ _ hg]; exact hj⟩) (by decide) rfl rfl (by decide) (by decide) (fun a ha => by cases ha; exact ⟨_, _, hg⟩) (by kernel_rfl)
theorem nrd4 (h : DV w₀ w p n4) (hg : Rw w g 98) : Calls Try.prog 30 #[pp p, .int .i64 0, sl g] w fun e w' => e = .returned (.bool true) ∧ DV w₀ w' p n4 ∧ KT w w' := readsR h 0 (by kernel_rfl) (.of_row hg (rp_len _)) (by decide +kernel)
theorem nc4 (h : DV w₀ w p n4) : Calls Try.prog 20 #[pp p] w fun e w' => e = .returned (.int .i64 2) ∧ w = w' := callsR h (r := 2) (by kernel_rfl)
theorem nwk (k : Nat) (hk : k < 256) (h : DV w₀ w p (mk k)) (hg : Rw w g 99) : Calls Try.prog 13 #[pp p, .int .i64 3, sl g] w (CR w₀ p 0 (mk (k + 1)) w) := writeRow h hg (rp_len 99) (by simp [mk]; omega) (mk_writeE k hk) (mk_write k hk)
theorem nw6 (h : DV w₀ w p (mk 256)) (hg : Rw w g 100) : Calls Try.prog 13 #[pp p, .int .i64 3, sl g] w (CR w₀ p 122 (mk 256) w) := writeRow h hg (rp_len 100) (by decide +kernel) (by kernel_rfl) (by kernel_rfl)
theorem nf4 (h : DV w₀ w p (mk 256)) : Calls Try.prog 15 #[pp p] w (CR w₀ p 0 n5 w) := flushR h (by decide +kernel) (by kernel_rfl) (by kernel_rfl)
theorem nw7 (h : DV w₀ w p n5) (hg : Rw w g 100) : Calls Try.prog 13 #[pp p, .int .i64 3, sl g] w (CR w₀ p 0 n6 w) := writeRow h hg (rp_len 100) (by decide +kernel) (by kernel_rfl) (by kernel_rfl)
theorem np6 (h : DV w₀ w p n6) : Calls Try.prog 21 #[pp p, .int .i64 1] w (CR w₀ p 0 n7 w) := planR h (by omega) (by kernel_rfl) (by kernel_rfl)
theorem nf7 (h : DV w₀ w p n7) : Calls Try.prog 15 #[pp p] w (CR w₀ p 120 n8 w) := flushR h (by decide +kernel) (by kernel_rfl) (by kernel_rfl)
theorem ns8 (h : DV w₀ w p n8) : Calls Try.prog 24 #[pp p, .int .i64 3] w fun e w' => ∃ g cap, e = .returned (.tuple #[.slice (some ⟨g, 0, none⟩) 128 cap, .int .i64 0]) ∧ w'.cell? ⟨g, 0, none⟩ = some (.int .u8 99) ∧ DV w₀ w' p n8 := by
  refine (safeR h 3 (b := rp 99) (by kernel_rfl)).mono ?_
  rintro e w' ⟨v, rfl, hN, hD⟩
  have ho := hN.1
  rw [rp_len] at ho
  obtain ⟨g, cap, cur, rfl, _, hg, hc⟩ := newRow_form ho (by omega)
  exact ⟨g, cap, rfl, by rw [cell_of_row _ _ _ _ _ _ hg, hc 0 (by omega)]; kernel_rfl, hD⟩
theorem nb0 (w : World) : Calls Try.prog 12 #[.int .i64 0] w fun e w' => e = .returned (.tuple #[.pointer none, .int .i64 2]) ∧ w = w' := new_bad 0 w (by omega)
theorem nb1 (w : World) : Calls Try.prog 12 #[.int .i64 65537] w fun e w' => e = .returned (.tuple #[.pointer none, .int .i64 2]) ∧ w = w' := new_bad 65537 w (by omega)
end
end Go.Proofs.Ytbmankbbkemkcaa
