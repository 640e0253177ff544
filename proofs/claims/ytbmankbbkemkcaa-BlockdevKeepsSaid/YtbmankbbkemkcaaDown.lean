/- BlockdevDown. -/
import Derived.Test.YtbmankbbkemkcaaDlaw
import Derived.Deep.RegionHeld3
namespace Go.Proofs.Ytbmankbbkemkcaa
open Go.RowKit

def d0 : Dv := Dv.new 8
def wr1 (D : Dv) (o : OpX) : Dv := D.write o.x.n o.x.bytes
theorem new8 (w₀ w : World) (hb : Below w₀.heap.size w₀ w) : Calls Try.prog 12 #[.int .i64 8] w fun e w' => ∃ p, e = .returned (.tuple #[.pointer (some ⟨p, 0, none⟩), .int .i64 0]) ∧ DV w₀ w' p d0 ∧ KT w w' := newR w₀ w hb 8 (by omega) (by omega)

theorem OpsIn.below {w W : World} {v : Value} {L : List OpX} (h : OpsIn w v L) (hb : Below w.heap.size w W) : OpsIn W v L := by
  rcases h with h | ⟨ad, cap, e, h1, h2⟩
  · exact .inl h
  · refine .inr ⟨ad, cap, e, h1.imp id (fun h => Nat.lt_of_lt_of_le h hb.size), fun i o ho => ?_⟩
    obtain ⟨h3, h4⟩ := h2 i o ho
    have hlt : ad.block < w.heap.size := by
      have := cell_lt (h3 0 _ rfl)
      rwa [add_blk, add_blk] at this
    exact ⟨h3.of_block (hb.block _ (by rw [add_blk]; exact hlt)), ⟨h4.keep.fr (Fr.of_below hb (fun _ => False)) (fun _ _ _ _ e => e), h4.i1, h4.i2, h4.i3, h4.i4, h4.i5⟩⟩

theorem great_in {w₀ : World} {a : Option Addr} {n cap : Nat} {L : List OpX} (h : OpsIn w₀ (.slice a n cap) L) {w : World} (hb : Below w₀.heap.size w₀ w) {E : Int} (hE : greatE L = E) : Calls Try.prog 11 #[.slice a n cap] w fun e w' => e = .returned (.int .i64 E) ∧ w = w' := by
  subst hE
  exact great_any w a n cap L (h.below hb)

theorem wr1_calls (D : Dv) (o : OpX) : (wr1 D o).calls ≤ D.calls + 1 := by
  unfold wr1 Dv.write
  split
  · omega
  · unfold Dv.tick; split <;> exact Nat.le_refl _
theorem fold_calls (L : List OpX) (D : Dv) : (L.foldl wr1 D).calls ≤ D.calls + L.length := by
  induction L generalizing D with
  | nil => simp
  | cons o L ih =>
    rw [List.foldl_cons, List.length_cons]
    have := ih (wr1 D o); have := wr1_calls D o; omega

theorem fold_keeps (L : List OpX) (D : Dv) (h1 : D.plan = 0) (h2 : D.down = false) : (L.foldl wr1 D).plan = 0 ∧ (L.foldl wr1 D).down = false ∧ (L.foldl wr1 D).safe = D.safe := by
  induction L generalizing D with
  | nil => exact ⟨h1, h2, rfl⟩
  | cons o L ih =>
    obtain ⟨k1, k2, k3⟩ := write_keeps o.x.n o.x.bytes h1 h2
    obtain ⟨j1, j2, j3⟩ := ih (wr1 D o) k1 k2
    exact ⟨j1, j2, j3.trans k3⟩

theorem NewB.kt {w w' W : World} {v : Value} {b : List UInt8} (h : NewB w w' v b) (hk : KT w' W) : BytesV W v b := by
  obtain ⟨h1, h2, h3⟩ := h
  have h4 : W.ownsRow w.heap.size 5 1 v b.length (bys b) := by
    rcases h1 with ⟨hl, ⟨e, e0⟩ | ⟨g, cap, cur, e, hb, hg, r⟩⟩
    · exact absurd e h3
    · exact ⟨hl, .inr ⟨g, cap, cur, e, hb, hk g cur 5 (0, 0) hg (by decide) (by decide) (by decide), r⟩⟩
  rcases h4.2 with ⟨e, _⟩ | ⟨g, cap, cur, e, _, hg, _⟩
  · exact absurd e h3
  · subst e
    exact .inl ⟨⟨g, 0, none⟩, cap, rfl, .inr (Array.getElem?_eq_some_iff.1 hg).1, fun j u hj => h4.cells (g := g) rfl j u hj⟩

theorem cachedL {w₀ w : World} {p : Nat} {D : Dv} (h : DV w₀ w p D) {n : Nat} (hn : D.cache.length = n) : Calls Try.prog 23 #[.pointer (some ⟨p, 0, none⟩)] w fun e w' => ∃ a cap, e = .returned (.slice a n cap) ∧ DV w₀ w' p D ∧ KT w w' := by
  subst hn
  refine (cachedR h).mono ?_
  rintro e w' ⟨v, rfl, ho, hd, hb⟩
  rcases ho.2 with ⟨e, e0⟩ | ⟨g, cap, cur, e, _⟩
  · subst e; rw [e0]; exact ⟨none, 0, rfl, hd, .of_below hb⟩
  · subst e; exact ⟨_, cap, rfl, hd, .of_below hb⟩

theorem safeL {w₀ w : World} {p : Nat} {D : Dv} (h : DV w₀ w p D) {b : List UInt8} (hb : D.safe[0]? = some b) : Calls Try.prog 24 #[.pointer (some ⟨p, 0, none⟩), .int .i64 0] w fun e w' => ∃ ad cap, e = .returned (.tuple #[.slice ad b.length cap, .int .i64 0]) ∧ NewB w w' (.slice ad b.length cap) b ∧ DV w₀ w' p D := by
  refine (safeR h 0 hb).mono ?_
  rintro e w' ⟨v, rfl, hN, hd⟩
  obtain ⟨ao, cap, rfl⟩ := hN.bytesV.len
  exact ⟨ao, cap, rfl, hN, hd⟩

/-- what is pulled answers 120 and stays -/
theorem downs {D : Dv} (h : D.down = true) (n : Int) (b : List UInt8) (m : Int) : D.writeE n b.length = 120 ∧ D.write n b = D ∧ D.flushE = 120 ∧ D.flush = D ∧ D.planE m = 120 ∧ D.setPlan m = D := by
  have hu := up_down h n
  refine ⟨?_, ?_, ?_, ?_, ?_, ?_⟩
  · unfold Dv.writeE; rw [if_pos (by omega), hu]
  · unfold Dv.write; rw [if_pos (.inl (by omega))]
  · unfold Dv.flushE; rw [if_pos h]
  · unfold Dv.flush; rw [if_pos h]
  · unfold Dv.planE; rw [if_pos h]
  · unfold Dv.setPlan; rw [if_pos h]

/-- an Op's cells, and the law's start -/
def OpS (w₀ : World) (b : Addr) (o : OpX) (X : World) : Prop :=
  X.cell? b = some (.int .i64 o.x.kind) ∧ X.cell? ⟨b.block, b.off + 1, none⟩ = some (.int .i64 o.x.n) ∧ X.cell? ⟨b.block, b.off + 2, none⟩ = some (.int .u8 (o.x.b.toNat : Int)) ∧ X.cell? ⟨b.block, b.off + 3, none⟩ = some (.int .i64 o.x.len) ∧
    X.cell? ⟨b.block, b.off + 4, none⟩ = some (.slice o.ak o.x.c.keep.length o.ck) ∧ X.cell? ⟨b.block, b.off + 5, none⟩ = some (.int .i64 o.x.c.torn) ∧ X.cell? ⟨b.block, b.off + 6, none⟩ = some (.int .i64 o.x.c.at_) ∧ Below w₀.heap.size w₀ X

theorem opS {w₀ X : World} {v : Value} {L : List OpX} (h : OpsIn w₀ v L) {ad : Addr} {n c k : Nat} (hv : v = .slice (some ad) n c) {o : OpX} (ho : L[k]? = some o) (hb : Below w₀.heap.size w₀ X) : OpS w₀ (ad.add (k * 7)) o X := by
  rcases h.below hb with ⟨_, rfl⟩ | ⟨ad', cap, e, _, h2⟩
  · simp at ho
  · rw [hv] at e; simp at e; obtain ⟨rfl, -, -⟩ := e
    obtain ⟨c0, c1, c2, c3, c4, c5, c6⟩ := op_cells (h2 k o ho).1
    exact ⟨c0, c1, c2, c3, c4, c5, c6, hb⟩

set_option maxRecDepth 100000 in
set_option maxHeartbeats 1000000 in
theorem down_walk (w : World) (a1 : Option Addr) (l1 k1 : Nat) (L1 : List OpX) (h1 : OpsIn w (.slice a1 l1 k1) L1) (n : Int) (a2 : Option Addr) (l2 k2 : Nat) (L2 : List OpX) (h2 : OpsIn w (.slice a2 l2 k2) L2) (hn : 0 ≤ n ∧ n ≤ 255) :
    Calls Try.prog 4 #[.slice a1 l1 k1, .int .u8 n, .slice a2 l2 k2] w fun e w' => e = .returned (.bool true) ∧ Below w.heap.size w w' := by
  obtain ⟨E1, hE1⟩ : ∃ E, greatE L1 = E := ⟨_, rfl⟩
  obtain ⟨E2, hE2⟩ : ∃ E, greatE L2 = E := ⟨_, rfl⟩
  have HE1 := Lib.hid hE1
  have HE2 := Lib.hid hE2
  have H1 := Lib.hid h1
  have H2 := Lib.hid h2
  clear hE1 hE2 h1 h2
  by_cases t1 : 0 < E1
  · go_enter Try.func4, Try.ntmps4
    go_wp2_with (first | (go_at_call 10; (with_reducible refine (alive_any _).mono ?_); rintro e w1 ⟨rfl, hb⟩; have HB := Lib.hid hb; clear hb) | (go_at_call 11; (with_reducible refine (great_in H1.out HB.out HE1.out).mono ?_); rintro e w2 ⟨rfl, rfl⟩) | (go_at_call 11; (with_reducible refine (great_in H2.out HB.out HE2.out).mono ?_); rintro e w2 ⟨rfl, rfl⟩))
    go_ret
    exact ⟨rfl, HB.out⟩
  by_cases t2 : 0 < E2
  · go_enter Try.func4, Try.ntmps4
    go_wp2_with (first | (go_at_call 10; (with_reducible refine (alive_any _).mono ?_); rintro e w1 ⟨rfl, hb⟩; have HB := Lib.hid hb; clear hb) | (go_at_call 11; (with_reducible refine (great_in H1.out HB.out HE1.out).mono ?_); rintro e w2 ⟨rfl, rfl⟩) | (go_at_call 11; (with_reducible refine (great_in H2.out HB.out HE2.out).mono ?_); rintro e w2 ⟨rfl, rfl⟩))
    go_ret
    exact ⟨rfl, HB.out⟩
  by_cases t3 : (100 : Int) < (l1 : Int)
  · go_enter Try.func4, Try.ntmps4
    go_wp2_with (first | (go_at_call 10; (with_reducible refine (alive_any _).mono ?_); rintro e w1 ⟨rfl, hb⟩; have HB := Lib.hid hb; clear hb) | (go_at_call 11; (with_reducible refine (great_in H1.out HB.out HE1.out).mono ?_); rintro e w2 ⟨rfl, rfl⟩) | (go_at_call 11; (with_reducible refine (great_in H2.out HB.out HE2.out).mono ?_); rintro e w2 ⟨rfl, rfl⟩))
    go_ret
    exact ⟨rfl, HB.out⟩
  by_cases t4 : (50 : Int) < (l2 : Int)
  · go_enter Try.func4, Try.ntmps4
    go_wp2_with (first | (go_at_call 10; (with_reducible refine (alive_any _).mono ?_); rintro e w1 ⟨rfl, hb⟩; have HB := Lib.hid hb; clear hb) | (go_at_call 11; (with_reducible refine (great_in H1.out HB.out HE1.out).mono ?_); rintro e w2 ⟨rfl, rfl⟩) | (go_at_call 11; (with_reducible refine (great_in H2.out HB.out HE2.out).mono ?_); rintro e w2 ⟨rfl, rfl⟩))
    go_ret
    exact ⟨rfl, HB.out⟩
  by_cases t5 : n = 0
  · have t5' : (n == 0) = true := by simp [t5]
    clear hn t5
    go_enter Try.func4, Try.ntmps4
    go_wp2_with (first | (go_at_call 10; (with_reducible refine (alive_any _).mono ?_); rintro e w1 ⟨rfl, hb⟩; have HB := Lib.hid hb; clear hb) | (go_at_call 11; (with_reducible refine (great_in H1.out HB.out HE1.out).mono ?_); rintro e w2 ⟨rfl, rfl⟩) | (go_at_call 11; (with_reducible refine (great_in H2.out HB.out HE2.out).mono ?_); rintro e w2 ⟨rfl, rfl⟩))
    go_ret
    exact ⟨rfl, HB.out⟩
  have t5' : (n == 0) = false := by simp [t5]
  go_enter Try.func4, Try.ntmps4
  go_wp2_with (first | (go_at_call 10; (with_reducible refine (alive_any _).mono ?_); rintro e w1 ⟨rfl, hb⟩; have HB := Lib.hid hb; clear hb) | (go_at_call 11; (with_reducible refine (great_in H1.out HB.out HE1.out).mono ?_); rintro e w2 ⟨rfl, rfl⟩) | (go_at_call 11; (with_reducible refine (great_in H2.out HB.out HE2.out).mono ?_); rintro e w2 ⟨rfl, rfl⟩) | (go_at_call 12; (with_reducible refine (new8 w _ HB.out).mono ?_); rintro e w3 ⟨p, rfl, hD, -⟩; have HD := Lib.hid hD; clear hD))
  have hl1 : l1 = L1.length := by
    rcases H1.out with ⟨e, rfl⟩ | ⟨ad, cp, e, _⟩
    · simp at e; simp [e]
    · simp at e; exact e.2.1
  have HL1 := Lib.hid hl1
  have HG1 := Lib.hid (greatE_zero (L := L1) (by rw [HE1.out]; omega))
  have HG2 := Lib.hid (greatE_zero (L := L2) (by rw [HE2.out]; omega))
  clear hl1
  go_loopw [57] (fun i wr => ∃ k : Nat, k ≤ l1 ∧ i = .int .i64 k ∧ DV w wr p ((L1.take k).foldl wr1 d0)) (fun i _ => l1 - (intOf i).toNat)
  case atStart => exact ⟨0, Nat.zero_le _, rfl, HD.out⟩
  case round =>
    obtain ⟨k, hk, rfl, hd⟩ := hrel
    rcases Nat.lt_or_ge k l1 with hlt | hge
    · obtain ⟨o, ho⟩ : ∃ o, L1[k]? = some o := ⟨L1[k]'(by rw [← HL1.out]; exact hlt), by simp⟩
      obtain ⟨ad, rfl⟩ : ∃ ad, a1 = some ad := by
        rcases H1.out with ⟨e, rfl⟩ | ⟨ad, cp, e, _⟩
        · simp at ho
        · simp at e; exact ⟨ad, e.1⟩
      have KP : Hid (∀ X, Below w.heap.size w X → OpS w (ad.add (k * 7)) o X) := fun X hb => opS H1.out rfl ho hb
      have HD := Lib.hid hd
      have HO := Lib.hid ho
      clear hd ho
      obtain ⟨D, hDd⟩ : ∃ D, (L1.take k).foldl wr1 d0 = D := ⟨_, rfl⟩
      have HDD := Lib.hid hDd
      have HD : Hid (DV w wr p D) := by show DV w wr p D; rw [← hDd]; exact HD.out
      have hlen : o.x.len ≤ 300 := (HG1.out.2 o (List.mem_of_getElem? HO.out)).2
      have hcalls : D.calls < 4611686018427387904 := by
        have h1 := fold_calls (L1.take k) d0
        rw [hDd] at h1
        have h2 : d0.calls = 0 := rfl
        have h3 := HG1.out.1
        rw [List.length_take] at h1
        omega
      have hst := Lib.hid HD.out.start.drew
      clear hDd
      go_wp2_with fail
      go_region_held3 (fun X => X.cell? (ad.add (k * 7)) = some (.int .i64 o.x.kind) ∧ X.cell? ⟨(ad.add (k * 7)).block, (ad.add (k * 7)).off + 1, none⟩ = some (.int .i64 o.x.n) ∧ X.cell? ⟨(ad.add (k * 7)).block, (ad.add (k * 7)).off + 2, none⟩ = some (.int .u8 (o.x.b.toNat : Int)) ∧ X.cell? ⟨(ad.add (k * 7)).block, (ad.add (k * 7)).off + 3, none⟩ = some (.int .i64 o.x.len) ∧ X.cell? ⟨(ad.add (k * 7)).block, (ad.add (k * 7)).off + 4, none⟩ = some (.slice o.ak o.x.c.keep.length o.ck) ∧ X.cell? ⟨(ad.add (k * 7)).block, (ad.add (k * 7)).off + 5, none⟩ = some (.int .i64 o.x.c.torn) ∧ X.cell? ⟨(ad.add (k * 7)).block, (ad.add (k * 7)).off + 6, none⟩ = some (.int .i64 o.x.c.at_) ∧ Below w.heap.size w X) ((refine KP.out _ ?_; first | exact hst.out | exact hDb.start | exact hD2.start)) (first | (go_at_call 14; refine (bytes_any o hlen _).mono ?_; rintro e w4 ⟨g, rfl, hrow, _, hb⟩; have hDb := DV.below (HD.out.below ((Below.refl _ _).drew)) hb) | (go_at_call 13; refine (writeRow hDb hrow (by simp [OpL.bytes]) hcalls rfl rfl).mono ?_; rintro e w5 ⟨rfl, hD2, _⟩))
      go_wp2
      go_roundw
      case rel => exact ⟨k + 1, by omega, by go_num, by
        rw [List.take_add_one, HO.out, List.foldl_append, HDD.out]
        exact hD2⟩
      case measure => simp [intOf]; omega
    · obtain rfl : k = l1 := by omega
      have hall : L1.take k = L1 := List.take_of_length_le (by rw [← HL1.out]; exact Nat.le_refl _)
      rw [hall] at hd
      obtain ⟨D1, hD1⟩ : ∃ D, L1.foldl wr1 d0 = D := ⟨_, rfl⟩
      rw [hD1] at hd
      have HD := Lib.hid hd
      have HD1 := Lib.hid hD1
      have hk1 := fold_keeps L1 d0 rfl rfl
      have hc1 := fold_calls L1 d0
      rw [hD1] at hk1 hc1
      obtain ⟨hf1, hf2, hf3, hf4, hf5⟩ := flush_keeps hk1.1 hk1.2.1
      obtain ⟨m, rfl⟩ : ∃ m : Nat, n = (m : Int) := ⟨n.toNat, by omega⟩
      obtain ⟨hp1, hp2, hp3⟩ := plan_starts (D := D1.flush) (m := m) hf3 (by omega)
      have hd0 : d0.calls = 0 := rfl
      have hL100 := HG1.out.1
      have HF := Lib.hid (And.intro hf1 hf5)
      have HP := Lib.hid hp1
      have HP2 := Lib.hid (And.intro hp2 (And.intro hp3 hf4))
      have HC := Lib.hid (show D1.calls ≤ 400 by omega)
      have HK1 := Lib.hid hk1
      clear hd hall hD1 hk1 hc1 hf1 hf2 hf3 hf4 hf5 hp1 hp2 hp3 hL100 hd0
      go_wp2_with (first | (go_at_call 15; refine (flushR HD.out (by have := HC.out; omega) HF.out.1 rfl).mono ?_; rintro e w5 ⟨rfl, hD, _⟩; have HD := Lib.hid hD; clear hD) | (go_at_call 20; refine (callsR HD.out rfl).mono ?_; rintro e w6 ⟨rfl, rfl⟩) | (go_at_call 21; refine (planR HD.out (by omega) HP.out rfl).mono ?_; rintro e w5 ⟨rfl, hD, _⟩; have HD := Lib.hid hD; clear hD))
      obtain ⟨D3, hD3⟩ : ∃ D3, D1.flush.setPlan (m : Int) = D3 := ⟨_, rfl⟩
      obtain ⟨c0, hc0⟩ : ∃ c0, D1.flush.calls = c0 := ⟨_, rfl⟩
      have hDx := HD.out
      rw [hD3] at hDx
      have HD := Lib.hid hDx
      clear hDx
      have HQ : Hid (PInv c0 m D3 ∧ D3.safe.length = 8 ∧ c0 ≤ 401) := by
        have h1 := HP2.out
        rw [hD3, hc0] at h1
        refine ⟨h1.1, ?_, ?_⟩
        · rw [h1.2.1, h1.2.2, HK1.out.2.2]; rfl
        · have := HF.out.2; have := HC.out; omega
      have hl2 : l2 = L2.length := by
        rcases H2.out with ⟨e, rfl⟩ | ⟨ad, cp, e, _⟩
        · simp at e; simp [e]
        · simp at e; exact e.2.1
      have HL2 := Lib.hid hl2
      rw [hc0]
      have HD3 := Lib.hid hD3
      clear hD3 hc0 hl2
      go_loopw [83] (fun i wr => ∃ j : Nat, j ≤ l2 ∧ i = .int .i64 j ∧ ∃ D, DV w wr p D ∧ PInv c0 m D ∧ D.safe.length = 8) (fun i _ => l2 - (intOf i).toNat)
      case atStart => exact ⟨0, Nat.zero_le _, rfl, D3, HD.out, HQ.out.1, HQ.out.2.1⟩
      case round =>
        obtain ⟨j, hj, rfl, D, hd, hpi, hsl⟩ := hrel
        rcases Nat.lt_or_ge j l2 with hlt | hge
        · obtain ⟨o, ho⟩ : ∃ o, L2[j]? = some o := ⟨L2[j]'(by rw [← HL2.out]; exact hlt), by simp⟩
          obtain ⟨ad, rfl⟩ : ∃ ad, a2 = some ad := by
            rcases H2.out with ⟨e, rfl⟩ | ⟨ad, cp, e, _⟩
            · simp at ho
            · simp at e; exact ⟨ad, e.1⟩
          have KP : Hid (∀ X, Below w.heap.size w X → OpS w (ad.add (j * 7)) o X) := fun X hb => opS H2.out rfl ho hb
          have HD := Lib.hid hd
          have HO := Lib.hid ho
          obtain ⟨s1, s2, s3, s4⟩ := pinv_step hpi o.x.n o.x.bytes
          have hlen : o.x.len ≤ 300 := (HG2.out.2 o (List.mem_of_getElem? HO.out)).2
          have hm401 := HQ.out.2.2
          have hcalls : D.calls < 4611686018427387904 := by rcases hpi with ⟨_, _, h⟩ | ⟨_, _, h⟩ <;> omega
          have hst := Lib.hid HD.out.start.drew
          have HS := Lib.hid (And.intro s1 (s2 ▸ hsl))
          obtain ⟨E, hE⟩ : ∃ E, D.writeE o.x.n o.x.bytes.length = E := ⟨_, rfl⟩
          rw [hE] at s3 s4
          clear hd ho hpi s1 s2 hsl
          cases hdn : D.down with
          | true =>
            obtain rfl := s3 hdn
            clear s3 s4
            go_wp2_with (go_at_call 22; refine (downR HD.out hdn).mono ?_; rintro e w6 ⟨rfl, rfl⟩)
            go_region_held3 (fun X => X.cell? (ad.add (j * 7)) = some (.int .i64 o.x.kind) ∧ X.cell? ⟨(ad.add (j * 7)).block, (ad.add (j * 7)).off + 1, none⟩ = some (.int .i64 o.x.n) ∧ X.cell? ⟨(ad.add (j * 7)).block, (ad.add (j * 7)).off + 2, none⟩ = some (.int .u8 (o.x.b.toNat : Int)) ∧ X.cell? ⟨(ad.add (j * 7)).block, (ad.add (j * 7)).off + 3, none⟩ = some (.int .i64 o.x.len) ∧ X.cell? ⟨(ad.add (j * 7)).block, (ad.add (j * 7)).off + 4, none⟩ = some (.slice o.ak o.x.c.keep.length o.ck) ∧ X.cell? ⟨(ad.add (j * 7)).block, (ad.add (j * 7)).off + 5, none⟩ = some (.int .i64 o.x.c.torn) ∧ X.cell? ⟨(ad.add (j * 7)).block, (ad.add (j * 7)).off + 6, none⟩ = some (.int .i64 o.x.c.at_) ∧ Below w.heap.size w X) ((refine KP.out _ ?_; first | exact hst.out | exact hDb.start | exact hD2.start)) (first | (go_at_call 14; refine (bytes_any o hlen _).mono ?_; rintro e w4 ⟨g, rfl, hrow, _, hb⟩; have hDb := DV.below (HD.out.below ((Below.refl _ _).drew)) hb) | (go_at_call 13; refine (writeRow hDb hrow (by simp [OpL.bytes]) hcalls hE rfl).mono ?_; rintro e w5 ⟨rfl, hD2, _⟩))
            go_wp2
            go_roundw
            case rel => exact ⟨j + 1, by omega, by go_num, _, hD2, HS.out.1, HS.out.2⟩
            case measure => simp [intOf]; omega
          | false =>
            by_cases hE0 : E = 120
            · subst hE0
              have HS4 := Lib.hid (s4 rfl hdn)
              clear s3 s4
              go_wp2_with (go_at_call 22; refine (downR HD.out hdn).mono ?_; rintro e w6 ⟨rfl, rfl⟩)
              go_region_held3 (fun X => X.cell? (ad.add (j * 7)) = some (.int .i64 o.x.kind) ∧ X.cell? ⟨(ad.add (j * 7)).block, (ad.add (j * 7)).off + 1, none⟩ = some (.int .i64 o.x.n) ∧ X.cell? ⟨(ad.add (j * 7)).block, (ad.add (j * 7)).off + 2, none⟩ = some (.int .u8 (o.x.b.toNat : Int)) ∧ X.cell? ⟨(ad.add (j * 7)).block, (ad.add (j * 7)).off + 3, none⟩ = some (.int .i64 o.x.len) ∧ X.cell? ⟨(ad.add (j * 7)).block, (ad.add (j * 7)).off + 4, none⟩ = some (.slice o.ak o.x.c.keep.length o.ck) ∧ X.cell? ⟨(ad.add (j * 7)).block, (ad.add (j * 7)).off + 5, none⟩ = some (.int .i64 o.x.c.torn) ∧ X.cell? ⟨(ad.add (j * 7)).block, (ad.add (j * 7)).off + 6, none⟩ = some (.int .i64 o.x.c.at_) ∧ Below w.heap.size w X) ((refine KP.out _ ?_; first | exact hst.out | exact hDb.start | exact hD2.start)) (first | (go_at_call 14; refine (bytes_any o hlen _).mono ?_; rintro e w4 ⟨g, rfl, hrow, _, hb⟩; have hDb := DV.below (HD.out.below ((Below.refl _ _).drew)) hb) | (go_at_call 13; refine (writeRow hDb hrow (by simp [OpL.bytes]) hcalls hE rfl).mono ?_; rintro e w5 ⟨rfl, hD2, _⟩))
              go_wp2_with (go_at_call 20; refine (callsR hD2 HS4.out).mono ?_; rintro e w7 ⟨rfl, rfl⟩)
              go_roundw
              case rel => exact ⟨j + 1, by omega, by go_num, _, hD2, HS.out.1, HS.out.2⟩
              case measure => simp [intOf]; omega
            · have hE1 : (E == 120) = false := beq_eq_false_iff_ne.2 hE0
              have HE0 := Lib.hid hE0
              clear s3 s4 hE0
              go_wp2_with (go_at_call 22; refine (downR HD.out hdn).mono ?_; rintro e w6 ⟨rfl, rfl⟩)
              go_region_held3 (fun X => X.cell? (ad.add (j * 7)) = some (.int .i64 o.x.kind) ∧ X.cell? ⟨(ad.add (j * 7)).block, (ad.add (j * 7)).off + 1, none⟩ = some (.int .i64 o.x.n) ∧ X.cell? ⟨(ad.add (j * 7)).block, (ad.add (j * 7)).off + 2, none⟩ = some (.int .u8 (o.x.b.toNat : Int)) ∧ X.cell? ⟨(ad.add (j * 7)).block, (ad.add (j * 7)).off + 3, none⟩ = some (.int .i64 o.x.len) ∧ X.cell? ⟨(ad.add (j * 7)).block, (ad.add (j * 7)).off + 4, none⟩ = some (.slice o.ak o.x.c.keep.length o.ck) ∧ X.cell? ⟨(ad.add (j * 7)).block, (ad.add (j * 7)).off + 5, none⟩ = some (.int .i64 o.x.c.torn) ∧ X.cell? ⟨(ad.add (j * 7)).block, (ad.add (j * 7)).off + 6, none⟩ = some (.int .i64 o.x.c.at_) ∧ Below w.heap.size w X) ((refine KP.out _ ?_; first | exact hst.out | exact hDb.start | exact hD2.start)) (first | (go_at_call 14; refine (bytes_any o hlen _).mono ?_; rintro e w4 ⟨g, rfl, hrow, _, hb⟩; have hDb := DV.below (HD.out.below ((Below.refl _ _).drew)) hb) | (go_at_call 13; refine (writeRow hDb hrow (by simp [OpL.bytes]) hcalls hE rfl).mono ?_; rintro e w5 ⟨rfl, hD2, _⟩))
              go_wp2
              go_roundw
              case rel => exact ⟨j + 1, by omega, by go_num, _, hD2, HS.out.1, HS.out.2⟩
              case measure => simp [intOf]; omega
        · obtain rfl : j = l2 := by omega
          obtain ⟨b0, hb0⟩ : ∃ b, D.safe[0]? = some b := ⟨D.safe[0]'(by omega), by simp⟩
          obtain ⟨cl, hcl⟩ : ∃ c, D.calls = c := ⟨_, rfl⟩
          obtain ⟨cn, hcn⟩ : ∃ c, D.cache.length = c := ⟨_, rfl⟩
          have HD := Lib.hid hd
          have hm401 := HQ.out.2.2
          obtain ⟨D4, hD4⟩ : ∃ D4 : Dv, { D with down := true } = D4 := ⟨_, rfl⟩
          have h4d : D4.down = true := by rw [← hD4]
          have h4c : D4.calls < 4611686018427387904 := by rw [← hD4]; show D.calls < _; rcases hpi with ⟨_, _, h⟩ | ⟨_, _, h⟩ <;> omega
          have h4s : D4.safe[0]? = some b0 := by rw [← hD4]; exact hb0
          have h4n : D4.cache.length = cn := by rw [← hD4]; exact hcn
          obtain ⟨zr, hzr⟩ : ∃ z, List.replicate 128 (0 : UInt8) = z := ⟨_, rfl⟩
          have hz : zr.length = 128 := by rw [← hzr]; exact List.length_replicate
          obtain ⟨z1, z2, z3, z4, z5, z6⟩ := downs h4d 0 zr 1
          have Z := Lib.hid (And.intro z1 (And.intro z2 (And.intro z3 (And.intro z4 (And.intro z5 z6)))))
          have HB0 := Lib.hid h4s
          have h128 : (∀ X : World, (Instr.makeSlice 23 (.int .i64 128) (.int .i64 128)).run Try.prog X = .ok (.slice (some ⟨X.heap.size, 0, none⟩) 128 128) (X.alloc (.cells (bys zr).toArray 5))) := fun X => by rw [← hzr]; exact make5 128 (by omega) X
          have HZ := Lib.hid hz
          clear z1 z2 z3 z4 z5 z6 h4s hb0 hd hz hzr
          rcases hpi with ⟨p1, p2, p3⟩ | ⟨p1, p2, p3⟩
          · obtain rfl : cl = c0 + m := by omega
            go_wp2_with (first
              | (go_at_call 22; refine (downR HD.out p1).mono ?_; rintro e w6 ⟨rfl, rfl⟩)
              | (go_at_call 20; refine (callsR HD.out hcl).mono ?_; rintro e w7 ⟨rfl, rfl⟩)
              | (go_at_call 18; refine (pullR HD.out hD4).mono ?_; rintro e w8 ⟨rfl, hD, _⟩; have HD := Lib.hid hD; clear hD)
              | (go_at_call 23; refine (cachedL HD.out h4n).mono ?_; rintro e wc ⟨ca2, cc2, rfl, hD, hk⟩; have hv1 := conv_bytes (HN.out.kt (HK.out.trans hk)); have hv2 := conv_bytes (HN2.out.kt hk); have HD := Lib.hid hD; clear hD hk)
              | (go_at_call 23; refine (cachedL HD.out h4n).mono ?_; rintro e wc ⟨ca1, cc1, rfl, hD, hk⟩; have HD := Lib.hid hD; clear hD hk)
              | (go_at_call 24; refine (safeL HD.out HB0.out).mono ?_; rintro e ws ⟨sa2, sc2, rfl, hN, hD⟩; have HK := Lib.hid (HK.out.trans (.of_below hN.2.1)); have HN2 := Lib.hid hN; have HD := Lib.hid hD; clear hD hN)
              | (go_at_call 24; refine (safeL HD.out HB0.out).mono ?_; rintro e ws ⟨sa1, sc1, rfl, hN, hD⟩; have HN := Lib.hid hN; have HK := Lib.hid (KT.refl ws); have HD := Lib.hid hD; clear hD hN)
              | (go_at_call 13; refine (writeRow (HD.out.below ((Below.refl _ _).alloc (Nat.le_refl _) _)) (b := zr) (Array.getElem?_push_size) HZ.out h4c Z.out.1 Z.out.2.1).mono ?_; rintro e w9 ⟨rfl, hD, hk⟩; have HK := Lib.hid (HK.out.trans ((KT.of_below ((Below.refl _ _).alloc (Nat.le_refl _) _)).trans hk)); have HD := Lib.hid hD; clear hD hk)
              | (go_at_call 15; refine (flushR HD.out (by omega) Z.out.2.2.1 Z.out.2.2.2.1).mono ?_; rintro e w9 ⟨rfl, hD, hk⟩; have HK := Lib.hid (HK.out.trans hk); have HD := Lib.hid hD; clear hD hk)
              | (go_at_call 21; refine (planR HD.out (by omega) Z.out.2.2.2.2.1 Z.out.2.2.2.2.2).mono ?_; rintro e w9 ⟨rfl, hD, hk⟩; have HK := Lib.hid (HK.out.trans hk); have HD := Lib.hid hD; clear hD hk))
            go_ret
            exact ⟨rfl, HD.out.start⟩
          · have hlt : cl < c0 + m := by omega
            have hne : ((cl : Int) == (c0 : Int) + (m : Int)) = false := beq_eq_false_iff_ne.2 (by omega)
            go_wp2_with (first
              | (go_at_call 22; refine (downR HD.out p1).mono ?_; rintro e w6 ⟨rfl, rfl⟩)
              | (go_at_call 20; refine (callsR HD.out hcl).mono ?_; rintro e w7 ⟨rfl, rfl⟩)
              | (go_at_call 18; refine (pullR HD.out hD4).mono ?_; rintro e w8 ⟨rfl, hD, _⟩; have HD := Lib.hid hD; clear hD)
              | (go_at_call 23; refine (cachedL HD.out h4n).mono ?_; rintro e wc ⟨ca2, cc2, rfl, hD, hk⟩; have hv1 := conv_bytes (HN.out.kt (HK.out.trans hk)); have hv2 := conv_bytes (HN2.out.kt hk); have HD := Lib.hid hD; clear hD hk)
              | (go_at_call 23; refine (cachedL HD.out h4n).mono ?_; rintro e wc ⟨ca1, cc1, rfl, hD, hk⟩; have HD := Lib.hid hD; clear hD hk)
              | (go_at_call 24; refine (safeL HD.out HB0.out).mono ?_; rintro e ws ⟨sa2, sc2, rfl, hN, hD⟩; have HK := Lib.hid (HK.out.trans (.of_below hN.2.1)); have HN2 := Lib.hid hN; have HD := Lib.hid hD; clear hD hN)
              | (go_at_call 24; refine (safeL HD.out HB0.out).mono ?_; rintro e ws ⟨sa1, sc1, rfl, hN, hD⟩; have HN := Lib.hid hN; have HK := Lib.hid (KT.refl ws); have HD := Lib.hid hD; clear hD hN)
              | (go_at_call 13; refine (writeRow (HD.out.below ((Below.refl _ _).alloc (Nat.le_refl _) _)) (b := zr) (Array.getElem?_push_size) HZ.out h4c Z.out.1 Z.out.2.1).mono ?_; rintro e w9 ⟨rfl, hD, hk⟩; have HK := Lib.hid (HK.out.trans ((KT.of_below ((Below.refl _ _).alloc (Nat.le_refl _) _)).trans hk)); have HD := Lib.hid hD; clear hD hk)
              | (go_at_call 15; refine (flushR HD.out (by omega) Z.out.2.2.1 Z.out.2.2.2.1).mono ?_; rintro e w9 ⟨rfl, hD, hk⟩; have HK := Lib.hid (HK.out.trans hk); have HD := Lib.hid hD; clear hD hk)
              | (go_at_call 21; refine (planR HD.out (by omega) Z.out.2.2.2.2.1 Z.out.2.2.2.2.2).mono ?_; rintro e w9 ⟨rfl, hD, hk⟩; have HK := Lib.hid (HK.out.trans hk); have HD := Lib.hid hD; clear hD hk))
            go_ret
            exact ⟨rfl, HD.out.start⟩
end Go.Proofs.Ytbmankbbkemkcaa
