/- alive: the chapter's first examples. -/
import Derived.Test.YtbmankbbkemkcaaLaw
namespace Go.Proofs.Ytbmankbbkemkcaa
open Go.RowKit Go.Shelf

def rp (c : UInt8) : List UInt8 := List.replicate 128 c
theorem rp_len (c : UInt8) : (rp c).length = 128 := List.length_replicate
def mixed : List UInt8 := 98 :: 98 :: List.replicate 126 97
def a0 : Dv := Dv.new 4
def a1 : Dv := a0.write 1 (rp 97)
def a2 : Dv := a1.write 1 (rp 98)
def a3 : Dv := a2.write 2 (rp 97)
def a4 : Dv := { a3 with down := true }
def cA : Cr := ⟨[5], 1, 2⟩
def a5 : Dv := a4.restarted cA

theorem a0w : a0.writeE 1 (rp 97).length = 0 ∧ a1.writeE 1 (rp 98).length = 0 ∧ a2.writeE 2 (rp 97).length = 0 := by decide +kernel
theorem a5r : a5.up (1 : Nat) = 0 ∧ a5.up (2 : Nat) = 0 ∧ a5.up (0 : Nat) = 0 := by decide +kernel
theorem a5m : (a5.read 1 == mixed) = true ∧ (a5.read 2 == rp 97) = true ∧ (a5.read 0 == rp 0) = true := by decide +kernel
theorem a0c : a0.calls < 4611686018427387904 ∧ a1.calls < 4611686018427387904 ∧ a2.calls < 4611686018427387904 := by decide +kernel
theorem a3l : a3.cache.length = 3 ∧ a3.cache.map (·.1) = [1, 1, 2] := by decide +kernel

theorem new4 (w₀ w : World) (hb : Below w₀.heap.size w₀ w) : Calls Try.prog 12 #[.int .i64 4] w fun e w' => ∃ p, e = .returned (.tuple #[.pointer (some ⟨p, 0, none⟩), .int .i64 0]) ∧ DV w₀ w' p a0 ∧ KT w w' := newR w₀ w hb 4 (by omega) (by omega)
theorem full97 (w : World) : Calls Try.prog 29 #[.int .u8 97] w fun e w' => ∃ g, e = .returned (.slice (some ⟨g, 0, none⟩) 128 128) ∧ w'.heap[g]? = some (.cells (bys (rp 97)).toArray 5 (0, 0)) ∧ w.heap.size ≤ g ∧ Below w.heap.size w w' := fullR 97 w
theorem full98 (w : World) : Calls Try.prog 29 #[.int .u8 98] w fun e w' => ∃ g, e = .returned (.slice (some ⟨g, 0, none⟩) 128 128) ∧ w'.heap[g]? = some (.cells (bys (rp 98)).toArray 5 (0, 0)) ∧ w.heap.size ≤ g ∧ Below w.heap.size w w' := fullR 98 w
theorem full99 (w : World) : Calls Try.prog 29 #[.int .u8 99] w fun e w' => ∃ g, e = .returned (.slice (some ⟨g, 0, none⟩) 128 128) ∧ w'.heap[g]? = some (.cells (bys (rp 99)).toArray 5 (0, 0)) ∧ w.heap.size ≤ g ∧ Below w.heap.size w w' := fullR 99 w
theorem full100 (w : World) : Calls Try.prog 29 #[.int .u8 100] w fun e w' => ∃ g, e = .returned (.slice (some ⟨g, 0, none⟩) 128 128) ∧ w'.heap[g]? = some (.cells (bys (rp 100)).toArray 5 (0, 0)) ∧ w.heap.size ≤ g ∧ Below w.heap.size w w' := fullR 100 w
theorem full0 (w : World) : Calls Try.prog 29 #[.int .u8 0] w fun e w' => ∃ g, e = .returned (.slice (some ⟨g, 0, none⟩) 128 128) ∧ w'.heap[g]? = some (.cells (bys (rp 0)).toArray 5 (0, 0)) ∧ w.heap.size ≤ g ∧ Below w.heap.size w w' := fullR 0 w

theorem aw1 {w₀ w : World} {p g : Nat} (h : DV w₀ w p a0) (hg : w.heap[g]? = some (.cells (bys (rp 97)).toArray 5 (0, 0))) : Calls Try.prog 13 #[.pointer (some ⟨p, 0, none⟩), .int .i64 1, .slice (some ⟨g, 0, none⟩) 128 128] w fun e w' => e = .returned (.int .i64 0) ∧ DV w₀ w' p a1 ∧ KT w w' :=
  writeRow h hg (rp_len 97) a0c.1 a0w.1 rfl
theorem aw2 {w₀ w : World} {p g : Nat} (h : DV w₀ w p a1) (hg : w.heap[g]? = some (.cells (bys (rp 98)).toArray 5 (0, 0))) : Calls Try.prog 13 #[.pointer (some ⟨p, 0, none⟩), .int .i64 1, .slice (some ⟨g, 0, none⟩) 128 128] w fun e w' => e = .returned (.int .i64 0) ∧ DV w₀ w' p a2 ∧ KT w w' :=
  writeRow h hg (rp_len 98) a0c.2.1 a0w.2.1 rfl
theorem aw3 {w₀ w : World} {p g : Nat} (h : DV w₀ w p a2) (hg : w.heap[g]? = some (.cells (bys (rp 97)).toArray 5 (0, 0))) : Calls Try.prog 13 #[.pointer (some ⟨p, 0, none⟩), .int .i64 2, .slice (some ⟨g, 0, none⟩) 128 128] w fun e w' => e = .returned (.int .i64 0) ∧ DV w₀ w' p a3 ∧ KT w w' :=
  writeRow h hg (rp_len 97) a0c.2.2 a0w.2.2 rfl
theorem ac3 {w₀ w : World} {p : Nat} (h : DV w₀ w p a3) : Calls Try.prog 23 #[.pointer (some ⟨p, 0, none⟩)] w fun e w' => ∃ g cap, e = .returned (.slice (some ⟨g, 0, none⟩) 3 cap) ∧ (∃ cur : Array Value, w'.heap[g]? = some (.cells cur 3 (0, 0)) ∧ cur[0]? = some (.int .i64 1) ∧ cur[1]? = some (.int .i64 1) ∧ cur[2]? = some (.int .i64 2)) ∧ DV w₀ w' p a3 := by
  refine (cachedR h).mono ?_
  rintro e w' ⟨v, rfl, ho, hD, hb⟩
  rw [a3l.1, a3l.2] at ho
  obtain ⟨g, cap, cur, rfl, _, hg, hc⟩ := newRow_form ho (by omega)
  exact ⟨g, cap, rfl, ⟨cur, hg, hc 0 (by omega), hc 1 (by omega), hc 2 (by omega)⟩, hD⟩
theorem ap4 {w₀ w : World} {p : Nat} (h : DV w₀ w p a3) : Calls Try.prog 18 #[.pointer (some ⟨p, 0, none⟩)] w fun e w' => e = .returned (.int .i64 0) ∧ DV w₀ w' p a4 ∧ KT w w' := pullR h rfl
theorem ar5 {w₀ w : World} {p g c : Nat} (h : DV w₀ w p a4) (hg : w.heap[g]? = some (.cells #[.int .u8 5] 5 (0, 0))) : Calls Try.prog 19 #[.pointer (some ⟨p, 0, none⟩), .agg #[.slice (some ⟨g, 0, none⟩) 1 c, .int .i64 1, .int .i64 2]] w fun e w' => e = .returned (.int .i64 0) ∧ DV w₀ w' p a5 ∧ KT w w' :=
  restartR h rfl cA rfl (.inl ⟨⟨g, 0, none⟩, c, rfl, .inr (Array.getElem?_eq_some_iff.1 hg).1, fun j u hj => by
    match j, hj with
    | 0, hj => rw [show (⟨g, 0, none⟩ : Addr).add 0 = ⟨g, 0, none⟩ from by simp [Addr.add], cell_of_row _ _ _ _ _ _ hg]; exact hj⟩) (by decide) rfl rfl (by decide) (by decide) (fun _ a ha => by cases ha; exact ⟨_, _, hg⟩) rfl
theorem ard1 {w₀ w : World} {p g : Nat} (h : DV w₀ w p a5) (hg : w.heap[g]? = some (.cells (bys mixed).toArray 5 (0, 0))) : Calls Try.prog 30 #[.pointer (some ⟨p, 0, none⟩), .int .i64 1, .slice (some ⟨g, 0, none⟩) 128 128] w fun e w' => e = .returned (.bool true) ∧ DV w₀ w' p a5 ∧ KT w w' :=
  readsR h 1 a5r.1 (.of_row hg (by decide +kernel)) a5m.1
theorem ard2 {w₀ w : World} {p g : Nat} (h : DV w₀ w p a5) (hg : w.heap[g]? = some (.cells (bys (rp 97)).toArray 5 (0, 0))) : Calls Try.prog 30 #[.pointer (some ⟨p, 0, none⟩), .int .i64 2, .slice (some ⟨g, 0, none⟩) 128 128] w fun e w' => e = .returned (.bool true) ∧ DV w₀ w' p a5 ∧ KT w w' :=
  readsR h 2 a5r.2.1 (.of_row hg (rp_len _)) a5m.2.1
theorem ard0 {w₀ w : World} {p g : Nat} (h : DV w₀ w p a5) (hg : w.heap[g]? = some (.cells (bys (rp 0)).toArray 5 (0, 0))) : Calls Try.prog 30 #[.pointer (some ⟨p, 0, none⟩), .int .i64 0, .slice (some ⟨g, 0, none⟩) 128 128] w fun e w' => e = .returned (.bool true) ∧ DV w₀ w' p a5 ∧ KT w w' :=
  readsR h 0 a5r.2.2 (.of_row hg (rp_len _)) a5m.2.2

theorem rp_cells {w : World} {g : Nat} (hg : w.heap[g]? = some (.cells (bys (rp 97)).toArray 5 (0, 0))) : w.cell? ⟨g, 0, none⟩ = some (.int .u8 97) ∧ w.cell? ⟨g, 1, none⟩ = some (.int .u8 97) ∧ w.frozen? ⟨g, 0, none⟩ = false ∧ w.frozen? ⟨g, 1, none⟩ = false :=
  ⟨by rw [cell_of_row _ _ _ _ _ _ hg]; kernel_rfl, by rw [cell_of_row _ _ _ _ _ _ hg]; kernel_rfl, frozen_of_row _ _ _ _ _ hg, frozen_of_row _ _ _ _ _ hg⟩
/-- the world behind the two stores -/
abbrev mixW (w : World) (g : Nat) : World := (w.setCell ⟨g, 0, none⟩ (.int .u8 98)).setCell ⟨g, 1, none⟩ (.int .u8 98)
theorem mix_row : ((bys (rp 97)).toArray.setIfInBounds 0 (.int .u8 98)).setIfInBounds 1 (.int .u8 98) = (bys mixed).toArray := by kernel_rfl
theorem mix_facts {w₀ w : World} {p g : Nat} {D : Dv} (h : DV w₀ w p D) (hg : w.heap[g]? = some (.cells (bys (rp 97)).toArray 5 (0, 0))) (hb : w₀.heap.size ≤ g) : DV w₀ (mixW w g) p D ∧ (mixW w g).heap[g]? = some (.cells (bys mixed).toArray 5 (0, 0)) :=
  ⟨(h.set5 hg hb _).set5 (blk_set hg rfl) hb _, blk_set (blk_set hg rfl) mix_row⟩
theorem mix_list {w : World} {g gl : Nat} {cur : Array Value} (hg : w.heap[g]? = some (.cells (bys (rp 97)).toArray 5 (0, 0))) (hl : w.heap[gl]? = some (.cells cur 3 (0, 0))) (hq : cur[0]? = some (.int .i64 1) ∧ cur[1]? = some (.int .i64 1) ∧ cur[2]? = some (.int .i64 2)) :
    (mixW w g).cell? ⟨gl, 0, none⟩ = some (.int .i64 1) ∧ (mixW w g).cell? ⟨gl, 1, none⟩ = some (.int .i64 1) ∧ (mixW w g).cell? ⟨gl, 2, none⟩ = some (.int .i64 2) := by
  have hne : gl ≠ g := by rintro rfl; rw [hl] at hg; simp at hg
  have h1 : (mixW w g).heap[gl]? = some (.cells cur 3 (0, 0)) := (Below.heap_setCell _ ⟨g, 1, none⟩ _ _ hne).trans ((Below.heap_setCell _ ⟨g, 0, none⟩ _ _ hne).trans hl)
  exact ⟨by rw [cell_of_row _ _ _ _ _ _ h1]; exact hq.1, by rw [cell_of_row _ _ _ _ _ _ h1]; exact hq.2.1, by rw [cell_of_row _ _ _ _ _ _ h1]; exact hq.2.2⟩

set_option maxRecDepth 100000 in
set_option maxHeartbeats 1000000 in
theorem alive_any (w : World) : Calls Try.prog 10 #[] w fun e w' => e = .returned (.bool true) ∧ Below w.heap.size w w' := by
  go_enter Try.func10, Try.ntmps10
  go_wp2_with (first
    | (go_at_call 12; (with_reducible refine (new4 w _ (Below.refl _ _)).mono ?_); rintro e w1 ⟨p, rfl, hD, -⟩; have HD := Lib.hid hD; clear hD)
    | (go_at_call 29; (with_reducible refine (full97 _).mono ?_); rintro e w2 ⟨g, rfl, hg, hge, hb⟩; have HG := Lib.hid (KT.of_below hb _ _ _ _ HG.out (by decide) (by decide) (by decide)); have HD1 := Lib.hid HD.out.lt.2.2; have HD := Lib.hid (HD.out.below hb); obtain ⟨z0, z1, z2, z3⟩ := rp_cells hg; have HM := Lib.hid (mix_facts HD.out hg (Nat.le_trans HD1.out hge)); obtain ⟨y0, y1, y2⟩ := mix_list hg HG.out HQ.out; have HR := Lib.hid hg; clear hge)
    | (go_at_call 29; (with_reducible refine (full97 _).mono ?_); rintro e w2 ⟨g, rfl, hg, hge, hb⟩; have HD := Lib.hid (HD.out.below hb); have HR := Lib.hid hg; clear hg hb hge)
    | (go_at_call 29; (with_reducible refine (full98 _).mono ?_); rintro e w2 ⟨g, rfl, hg, hge, hb⟩; have HD := Lib.hid (HD.out.below hb); have HR := Lib.hid hg; clear hg hb hge)
    | (go_at_call 13; (with_reducible refine (aw1 HD.out HR.out).mono ?_); rintro e w3 ⟨rfl, hD, -⟩; have HD := Lib.hid hD; clear hD)
    | (go_at_call 13; (with_reducible refine (aw2 HD.out HR.out).mono ?_); rintro e w3 ⟨rfl, hD, -⟩; have HD := Lib.hid hD; clear hD)
    | (go_at_call 13; (with_reducible refine (aw3 HD.out HR.out).mono ?_); rintro e w3 ⟨rfl, hD, -⟩; have HD := Lib.hid hD; clear hD)
    | (go_at_call 23; (with_reducible refine (ac3 HD.out).mono ?_); rintro e w4 ⟨gl, cl, rfl, ⟨cur, hg, q0, q1, q2⟩, hD⟩; have HG := Lib.hid hg; have HQ := Lib.hid (And.intro q0 (And.intro q1 q2)); have HD := Lib.hid hD; clear hD hg q0 q1 q2)
    | (go_at_call 18; (with_reducible refine (ap4 HD.out).mono ?_); rintro e w5 ⟨rfl, hD, hkt⟩; have HD := Lib.hid hD; have HG := Lib.hid (hkt _ _ _ _ HG.out (by decide) (by decide) (by decide)); clear hD hkt)
    | (go_at_call 19; (with_reducible refine (ar5 (HD.out.below (al1 _ _)) (heap_alloc_new _ _)).mono ?_); rintro e w6 ⟨rfl, hD, hkt⟩; have HD := Lib.hid hD; have HG := Lib.hid (hkt _ _ _ _ (KT.of_below (al1 _ _) _ _ _ _ HG.out (by decide) (by decide) (by decide)) (by decide) (by decide) (by decide)); clear hD hkt)
    | (go_at_call 30; (with_reducible refine (ard1 HM.out.1 HM.out.2).mono ?_); rintro e w7 ⟨rfl, hD, -⟩; have HD := Lib.hid hD; clear HM hD)
    | (go_at_call 30; (with_reducible refine (ard2 HD.out HR.out).mono ?_); rintro e w7 ⟨rfl, hD, -⟩; have HD := Lib.hid hD; clear hD)
    | (go_at_call 29; (with_reducible refine (full0 _).mono ?_); rintro e w2 ⟨g, rfl, hg, hge, hb⟩; have HD := Lib.hid (HD.out.below hb); have HR := Lib.hid hg; clear hg hb hge)
    | (go_at_call 30; (with_reducible refine (ard0 HD.out HR.out).mono ?_); rintro e w7 ⟨rfl, hD, -⟩; have HD := Lib.hid hD; clear hD))
  go_ret
  exact ⟨rfl, HD.out.start⟩
end Go.Proofs.Ytbmankbbkemkcaa
