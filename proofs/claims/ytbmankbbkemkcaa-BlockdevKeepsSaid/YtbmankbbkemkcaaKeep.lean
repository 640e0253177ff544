/- BlockdevKeeps. -/
import Derived.Test.YtbmankbbkemkcaaDown
import Derived.Test.YtbmankbbkemkcaaKmem
import Derived.BigQuiet
namespace Go.Proofs.Ytbmankbbkemkcaa
open Go.RowKit

theorem info9 : (Try.prog.info? 9).map (fun i => (i.zero, i.size, i.bytes)) = some (some (.string ⟨#[]⟩), 1, 16) := by kernel_rfl

/-- first's writes: a full cache is flushed -/
def wr2 (D : Dv) (o : OpX) : Dv := if D.writeE o.x.n o.x.bytes.length = 122 then (wr1 D o).flush else wr1 D o
theorem wr2_open {D : Dv} (h : Open8 D) (o : OpX) : Open8 (wr2 D o) ∧ (wr2 D o).calls ≤ D.calls + 2 := by
  have h1 := h.write o.x.n o.x.bytes
  unfold wr2
  split
  · have h2 := h1.1.flush
    refine ⟨h2.1, ?_⟩
    show (D.write o.x.n o.x.bytes).flush.calls ≤ _
    rw [h2.2.2.2]; omega
  · exact ⟨h1.1, by show (D.write o.x.n o.x.bytes).calls ≤ _; omega⟩

theorem boxed {w w1 : World} {cs : Array Value} {t : TypeId} (hb : Below (w.alloc (.cells cs t)).heap.size (w.alloc (.cells cs t)) w1) : Below w.heap.size w w1 ∧ w1.heap[w.heap.size]? = some (.cells cs t (0, 0)) :=
  ⟨((Below.refl _ w).alloc (Nat.le_refl _) _).trans (hb.mono (by simp)), (hb.block w.heap.size (by simp)).trans Array.getElem?_push_size⟩

set_option maxRecDepth 100000 in
set_option maxHeartbeats 16000000 in
theorem keeps_walk (w : World) (a1 : Option Addr) (l1 k1 : Nat) (L1 : List OpX) (h1 : OpsIn w (.slice a1 l1 k1) L1) (a2 : Option Addr) (l2 k2 : Nat) (L2 : List OpX) (h2 : OpsIn w (.slice a2 l2 k2) L2)
    (c : Cr) (ak : Option Addr) (lk ck : Nat) (hlk : c.keep.length = lk) (hk : BytesV w (.slice ak lk ck) c.keep) (t a : Int) (hct : c.torn = t) (hca : c.at_ = a) (hk1 : I64 c.torn) (hk2 : I64 c.at_) :
    Calls Try.prog 3 #[.slice a1 l1 k1, .slice a2 l2 k2, .agg #[.slice ak lk ck, .int .i64 t, .int .i64 a]] w fun e w' => e = .returned (.bool true) ∧ Below w.heap.size w w' := by
  obtain ⟨E1, hE1⟩ : ∃ E, greatE L1 = E := ⟨_, rfl⟩
  obtain ⟨E2, hE2⟩ : ∃ E, greatE L2 = E := ⟨_, rfl⟩
  have HE1 := Lib.hid hE1
  have HE2 := Lib.hid hE2
  have H1 := Lib.hid h1
  have H2 := Lib.hid h2
  have HC := Lib.hid (And.intro hlk (And.intro hk (And.intro hct (And.intro hca (And.intro hk1 hk2)))))
  clear hE1 hE2 h1 h2 hlk hk hct hca hk1 hk2
  by_cases t1 : 0 < E1
  · go_enter Try.func3, Try.ntmps3
    go_wp2_with (first | (go_at_call 10; (with_reducible refine (alive_any _).mono ?_); rintro e w1 ⟨rfl, hb⟩; obtain ⟨hb, hx⟩ := boxed hb; obtain ⟨_, x0, _, _⟩ := cr_cells hx; have HX := Lib.hid hx; have HB := Lib.hid hb; clear hb hx) | (go_at_call 11; (with_reducible refine (great_in H1.out HB.out HE1.out).mono ?_); rintro e w2 ⟨rfl, rfl⟩) | (go_at_call 11; (with_reducible refine (great_in H2.out HB.out HE2.out).mono ?_); rintro e w2 ⟨rfl, rfl⟩))
    go_ret
    exact ⟨rfl, HB.out⟩
  by_cases t2 : 0 < E2
  · go_enter Try.func3, Try.ntmps3
    go_wp2_with (first | (go_at_call 10; (with_reducible refine (alive_any _).mono ?_); rintro e w1 ⟨rfl, hb⟩; obtain ⟨hb, hx⟩ := boxed hb; obtain ⟨_, x0, _, _⟩ := cr_cells hx; have HX := Lib.hid hx; have HB := Lib.hid hb; clear hb hx) | (go_at_call 11; (with_reducible refine (great_in H1.out HB.out HE1.out).mono ?_); rintro e w2 ⟨rfl, rfl⟩) | (go_at_call 11; (with_reducible refine (great_in H2.out HB.out HE2.out).mono ?_); rintro e w2 ⟨rfl, rfl⟩))
    go_ret
    exact ⟨rfl, HB.out⟩
  by_cases t3 : (64 : Int) < (lk : Int)
  · go_enter Try.func3, Try.ntmps3
    go_wp2_with (first | (go_at_call 10; (with_reducible refine (alive_any _).mono ?_); rintro e w1 ⟨rfl, hb⟩; obtain ⟨hb, hx⟩ := boxed hb; obtain ⟨_, x0, _, _⟩ := cr_cells hx; have HX := Lib.hid hx; have HB := Lib.hid hb; clear hb hx) | (go_at_call 11; (with_reducible refine (great_in H1.out HB.out HE1.out).mono ?_); rintro e w2 ⟨rfl, rfl⟩) | (go_at_call 11; (with_reducible refine (great_in H2.out HB.out HE2.out).mono ?_); rintro e w2 ⟨rfl, rfl⟩))
    go_ret
    exact ⟨rfl, HB.out⟩
  by_cases t4 : (200 : Int) < (l1 : Int)
  · go_enter Try.func3, Try.ntmps3
    go_wp2_with (first | (go_at_call 10; (with_reducible refine (alive_any _).mono ?_); rintro e w1 ⟨rfl, hb⟩; obtain ⟨hb, hx⟩ := boxed hb; obtain ⟨_, x0, _, _⟩ := cr_cells hx; have HX := Lib.hid hx; have HB := Lib.hid hb; clear hb hx) | (go_at_call 11; (with_reducible refine (great_in H1.out HB.out HE1.out).mono ?_); rintro e w2 ⟨rfl, rfl⟩) | (go_at_call 11; (with_reducible refine (great_in H2.out HB.out HE2.out).mono ?_); rintro e w2 ⟨rfl, rfl⟩))
    go_ret
    exact ⟨rfl, HB.out⟩
  by_cases t5 : (200 : Int) < (l2 : Int)
  · go_enter Try.func3, Try.ntmps3
    go_wp2_with (first | (go_at_call 10; (with_reducible refine (alive_any _).mono ?_); rintro e w1 ⟨rfl, hb⟩; obtain ⟨hb, hx⟩ := boxed hb; obtain ⟨_, x0, _, _⟩ := cr_cells hx; have HX := Lib.hid hx; have HB := Lib.hid hb; clear hb hx) | (go_at_call 11; (with_reducible refine (great_in H1.out HB.out HE1.out).mono ?_); rintro e w2 ⟨rfl, rfl⟩) | (go_at_call 11; (with_reducible refine (great_in H2.out HB.out HE2.out).mono ?_); rintro e w2 ⟨rfl, rfl⟩))
    go_ret
    exact ⟨rfl, HB.out⟩
  go_enter Try.func3, Try.ntmps3
  go_wp2_with (first | (go_at_call 10; (with_reducible refine (alive_any _).mono ?_); rintro e w1 ⟨rfl, hb⟩; obtain ⟨hb, hx⟩ := boxed hb; obtain ⟨_, x0, _, _⟩ := cr_cells hx; have HX := Lib.hid hx; have HB := Lib.hid hb; clear hb hx) | (go_at_call 11; (with_reducible refine (great_in H1.out HB.out HE1.out).mono ?_); rintro e w2 ⟨rfl, rfl⟩) | (go_at_call 11; (with_reducible refine (great_in H2.out HB.out HE2.out).mono ?_); rintro e w2 ⟨rfl, rfl⟩) | (go_at_call 12; (with_reducible refine (new8 w _ HB.out).mono ?_); rintro e w3 ⟨p, rfl, hD, hk⟩; have HX := Lib.hid (hk _ _ _ _ HX.out (by decide) (by decide) (by decide)); have HD := Lib.hid hD; clear hD hk))
  clear x0
  have hl1 : l1 = L1.length := by
    rcases H1.out with ⟨e, rfl⟩ | ⟨ad, cp, e, _⟩
    · simp at e; simp [e]
    · simp at e; exact e.2.1
  have HL1 := Lib.hid hl1
  have HG1 := Lib.hid (greatE_zero (L := L1) (by rw [HE1.out]; omega))
  have HG2 := Lib.hid (greatE_zero (L := L2) (by rw [HE2.out]; omega))
  clear hl1
  go_loopw [66] (fun i wr => ∃ k : Nat, k ≤ l1 ∧ i = .int .i64 k ∧ ∃ D, DV w wr p D ∧ Open8 D ∧ D.calls ≤ 2 * k ∧ wr.heap[w.heap.size]? = some (.cells #[.slice ak lk ck, .int .i64 t, .int .i64 a] 25 (0, 0))) (fun i _ => l1 - (intOf i).toNat)
  case atStart => exact ⟨0, Nat.zero_le _, rfl, d0, HD.out, ⟨rfl, rfl, rfl⟩, Nat.le_refl _, HX.out⟩
  case round =>
    obtain ⟨k, hk, rfl, D, hd, ho8, hcl, hx⟩ := hrel
    rcases Nat.lt_or_ge k l1 with hlt | hge
    · obtain ⟨o, ho⟩ : ∃ o, L1[k]? = some o := ⟨L1[k]'(by rw [← HL1.out]; exact hlt), by simp⟩
      obtain ⟨ad, rfl⟩ : ∃ ad, a1 = some ad := by
        rcases H1.out with ⟨e, rfl⟩ | ⟨ad, cp, e, _⟩
        · simp at ho
        · simp at e; exact ⟨ad, e.1⟩
      have KP : Hid (∀ X, Below w.heap.size w X → OpS w (ad.add (k * 7)) o X) := fun X hb => opS H1.out rfl ho hb
      have HD := Lib.hid hd
      have HX := Lib.hid hx
      have hlen : o.x.len ≤ 300 := (HG1.out.2 o (List.mem_of_getElem? ho)).2
      have hcalls : D.calls < 4611686018427387904 := by omega
      have hst := Lib.hid HD.out.start.drew
      have HO := Lib.hid (ho8.write o.x.n o.x.bytes)
      have HE := Lib.hid ho8
      obtain ⟨E, hE⟩ : ∃ E, D.writeE o.x.n o.x.bytes.length = E := ⟨_, rfl⟩
      clear hd ho ho8 hx
      by_cases hE0 : E = 122
      · subst hE0
        go_wp2_with fail
        go_region_held3 (fun X => X.cell? (ad.add (k * 7)) = some (.int .i64 o.x.kind) ∧ X.cell? ⟨(ad.add (k * 7)).block, (ad.add (k * 7)).off + 1, none⟩ = some (.int .i64 o.x.n) ∧ X.cell? ⟨(ad.add (k * 7)).block, (ad.add (k * 7)).off + 2, none⟩ = some (.int .u8 (o.x.b.toNat : Int)) ∧ X.cell? ⟨(ad.add (k * 7)).block, (ad.add (k * 7)).off + 3, none⟩ = some (.int .i64 o.x.len) ∧ X.cell? ⟨(ad.add (k * 7)).block, (ad.add (k * 7)).off + 4, none⟩ = some (.slice o.ak o.x.c.keep.length o.ck) ∧ X.cell? ⟨(ad.add (k * 7)).block, (ad.add (k * 7)).off + 5, none⟩ = some (.int .i64 o.x.c.torn) ∧ X.cell? ⟨(ad.add (k * 7)).block, (ad.add (k * 7)).off + 6, none⟩ = some (.int .i64 o.x.c.at_) ∧ Below w.heap.size w X) ((refine KP.out _ ?_; first | exact hst.out | exact hDb.start | exact hD2.start)) (first | (go_at_call 14; refine (bytes_any o hlen _).mono ?_; rintro e w4 ⟨g, rfl, hrow, _, hb⟩; have hDb := DV.below (HD.out.below ((Below.refl _ _).drew)) hb; have hx4 := KT.of_below hb _ _ _ _ HX.out (by decide) (by decide) (by decide)) | (go_at_call 13; refine (writeRow hDb hrow (by simp [OpL.bytes]) hcalls hE rfl).mono ?_; rintro e w5 ⟨rfl, hD2, hkt⟩; have hx5 := hkt _ _ _ _ hx4 (by decide) (by decide) (by decide)))
        go_wp2_with (go_at_call 15; refine (flushR hD2 (by have := HO.out.2; omega) HO.out.1.flush.2.1 rfl).mono ?_; rintro e w6 ⟨rfl, hD3, hkt3⟩; have hx6 := hkt3 _ _ _ _ hx5 (by decide) (by decide) (by decide))
        go_roundw
        case rel => exact ⟨k + 1, by omega, by go_num, _, hD3, HO.out.1.flush.1, by have := HO.out.2; have := HO.out.1.flush.2.2.2; omega, hx6⟩
        case measure => simp [intOf]; omega
      · have hE1 : (E == 122) = false := beq_eq_false_iff_ne.2 hE0
        clear hE0
        go_wp2_with fail
        go_region_held3 (fun X => X.cell? (ad.add (k * 7)) = some (.int .i64 o.x.kind) ∧ X.cell? ⟨(ad.add (k * 7)).block, (ad.add (k * 7)).off + 1, none⟩ = some (.int .i64 o.x.n) ∧ X.cell? ⟨(ad.add (k * 7)).block, (ad.add (k * 7)).off + 2, none⟩ = some (.int .u8 (o.x.b.toNat : Int)) ∧ X.cell? ⟨(ad.add (k * 7)).block, (ad.add (k * 7)).off + 3, none⟩ = some (.int .i64 o.x.len) ∧ X.cell? ⟨(ad.add (k * 7)).block, (ad.add (k * 7)).off + 4, none⟩ = some (.slice o.ak o.x.c.keep.length o.ck) ∧ X.cell? ⟨(ad.add (k * 7)).block, (ad.add (k * 7)).off + 5, none⟩ = some (.int .i64 o.x.c.torn) ∧ X.cell? ⟨(ad.add (k * 7)).block, (ad.add (k * 7)).off + 6, none⟩ = some (.int .i64 o.x.c.at_) ∧ Below w.heap.size w X) ((refine KP.out _ ?_; first | exact hst.out | exact hDb.start | exact hD2.start)) (first | (go_at_call 14; refine (bytes_any o hlen _).mono ?_; rintro e w4 ⟨g, rfl, hrow, _, hb⟩; have hDb := DV.below (HD.out.below ((Below.refl _ _).drew)) hb; have hx4 := KT.of_below hb _ _ _ _ HX.out (by decide) (by decide) (by decide)) | (go_at_call 13; refine (writeRow hDb hrow (by simp [OpL.bytes]) hcalls hE rfl).mono ?_; rintro e w5 ⟨rfl, hD2, hkt⟩; have hx5 := hkt _ _ _ _ hx4 (by decide) (by decide) (by decide)))
        go_wp2
        go_roundw
        case rel => exact ⟨k + 1, by omega, by go_num, _, hD2, HO.out.1, by have := HO.out.2; omega, hx5⟩
        case measure => simp [intOf]; omega
    · obtain rfl : k = l1 := by omega
      have HX := Lib.hid hx
      obtain ⟨hf1, hf2, hf3, hf4⟩ := ho8.flush
      obtain ⟨S, hS⟩ : ∃ S, D.flush = S := ⟨_, rfl⟩
      rw [hS] at hf1 hf3 hf4
      have HD := Lib.hid hd
      have HO := Lib.hid (And.intro hf1 (And.intro hf2 (And.intro hf3 hf4)))
      have HSS := Lib.hid hS
      clear hd ho8 hx hf1 hf2 hf3 hf4 hS
      go_wp2_with (go_at_call 15; refine (flushR HD.out (by omega) HO.out.2.1 HSS.out).mono ?_; rintro e w5 ⟨rfl, hD, hkt⟩; have HX := Lib.hid (hkt _ _ _ _ HX.out (by decide) (by decide) (by decide)); have HD := Lib.hid hD; clear hD hkt)
      have hbs : w.heap.size ≤ w5.heap.size := HD.out.start.size
      have hnew := AllAt.new w w5 hbs
      have hbel2 : Below w5.heap.size w5 ((w5.alloc (.cells #[str [], str [], str [], str [], str [], str [], str [], str []] 37)).alloc (.cells #[.slice none 0 0, .slice none 0 0, .slice none 0 0, .slice none 0 0, .slice none 0 0, .slice none 0 0, .slice none 0 0, .slice none 0 0] 39)) := ((Below.refl _ _).alloc (Nat.le_refl _) _).alloc (by simp) _
      have hDn := HD.out.below hbel2
      have hxn := KT.of_below hbel2 _ _ _ _ HX.out (by decide) (by decide) (by decide)
      generalize (w5.alloc (.cells #[str [], str [], str [], str [], str [], str [], str [], str []] 37)).alloc (.cells #[.slice none 0 0, .slice none 0 0, .slice none 0 0, .slice none 0 0, .slice none 0 0, .slice none 0 0, .slice none 0 0, .slice none 0 0] 39) = w6 at hnew hDn hxn ⊢
      obtain ⟨gs, hgs⟩ : ∃ gs, gs = w5.heap.size := ⟨_, rfl⟩
      obtain ⟨ga, hga⟩ : ∃ ga, ga = w5.heap.size + 1 := ⟨_, rfl⟩
      rw [← hga, ← hgs] at hnew
      rw [← hga, ← hgs]
      have HD := Lib.hid hDn
      have HX := Lib.hid hxn
      have HN := Lib.hid hnew
      clear hbs hnew hbel2 hDn hxn hgs hga
      have HU : Hid (∀ n : Nat, n < 8 → S.up (n : Int) = 0 ∧ S.read n = S.safe.getD n []) := fun n hn => by
        obtain ⟨⟨_, hdn, hln⟩, _, hcn, _⟩ := HO.out
        refine ⟨?_, ?_⟩
        · unfold Dv.up; rw [if_neg (by simp [hdn]), if_neg (by omega)]
        · unfold Dv.read; rw [hcn]; rfl
      go_loopw [88] (fun i wr => ∃ n : Nat, n ≤ 8 ∧ i = .int .i64 n ∧ ∃ sx vs, DV w wr p S ∧ AllAt w wr gs ga sx (fun m => if m < n then [S.safe.getD m []] else []) vs ∧ (∀ m, m < n → sx[m]? = some (S.safe.getD m [])) ∧ wr.heap[w.heap.size]? = some (.cells #[.slice ak lk ck, .int .i64 t, .int .i64 a] 25 (0, 0))) (fun i _ => 8 - (intOf i).toNat)
      case atStart => exact ⟨0, Nat.zero_le _, rfl, _, _, HD.out, HN.out, fun m hm => absurd hm (Nat.not_lt_zero m), HX.out⟩
      case round =>
        obtain ⟨n, hn, rfl, sx, vs, hd, ha, hsx, hx⟩ := hrel
        rcases Nat.lt_or_ge n 8 with hlt | hge
        · obtain ⟨b, hb⟩ : ∃ b, S.safe.getD n [] = b := ⟨_, rfl⟩
          obtain ⟨v, hv⟩ : ∃ v, vs[n]? = some v := ⟨vs[n]'(by rw [ha.len]; exact hlt), by simp⟩
          obtain ⟨bx, hbx⟩ : ∃ v, sx[n]? = some v := ⟨sx[n]'(by rw [ha.lenS]; exact hlt), by simp⟩
          have HBX := Lib.hid hbx
          have HD := Lib.hid hd
          have HX := Lib.hid hx
          have HA := Lib.hid ha
          have HSX := Lib.hid hsx
          have HV := Lib.hid hv
          have hu := HU.out n hlt
          rw [hb] at hu
          have hi0 : (0 : Int) ≤ (n : Int) := Int.natCast_nonneg _
          have hi1 : (n : Int) < 8 := by omega
          have hlt8 : (n : Int).toNat < 8 := by omega
          clear hd hx ha hsx hv hbx
          go_wp2_with (go_at_call 16; refine (readL HD.out hu.1 hu.2).mono ?_; rintro e w7 ⟨ao, cap, rfl, hN, hD⟩; have hcv := conv_bytes hN.bytesV; have HX := Lib.hid (KT.of_below hN.2.1 _ _ _ _ HX.out (by decide) (by decide) (by decide)); have HA := Lib.hid (HA.out.below hN.2.1); have hf0 := HA.out.frs n; have hs0 := HA.out.safe HBX.out; have HD := Lib.hid hD; clear hD hN)
          have hA2 := HA.out.set n b
          have hD2 := HD.out.loose (HA.out.set_kc n (str b)).2
          have hX2 := (HA.out.set_kc n (str b)).1 _ _ _ _ HX.out (by decide) (by decide) (by decide) (by decide) (by decide) (by decide)
          clear hf0 hs0 hcv
          generalize w7.setCell ⟨gs, n, none⟩ (str b) = w8 at hA2 hD2 hX2 ⊢
          have c1 := hA2.row HV.out
          have c2 := hA2.safe (n := n) (b := b) (by rw [List.getElem?_set_self (by rw [HA.out.lenS]; exact hlt)])
          have c3 := hA2.fra n
          have na := hA2.na HV.out
          have ns := hA2.ns HV.out
          have lga := hA2.lga
          have lgs := hA2.lgs
          have HA2 := Lib.hid hA2
          have HD2 := Lib.hid hD2
          have HX2 := Lib.hid hX2
          clear hA2 hD2 hX2
          obtain ⟨i0, q0, q1, q2, q3⟩ := info_parts info9
          have hown : ∀ X, AllAt w X gs ga (sx.set n b) (fun m => if m < n then [S.safe.getD m []] else []) vs → X.ownsRow w.heap.size 9 1 v 0 (strs []) := fun X h => h.own HV.out (by simp) rfl
          have hne : gs ≠ ga := HA2.out.ne
          have c1' := World.new_ne w8 _ c1
          have hbel9 : Below w8.heap.size w8 (w8.alloc (.cells #[str b] 9)).drew := ((Below.refl _ _).alloc (Nat.le_refl _) _).drew
          go_region_law ((refine step_append_lies _ (by rfl) _ _ _ (by rfl) w.heap.size 9 i0 _ 1 16 Try.underlying38 q0 q1 q2 q3 rfl (by omega) v 0 (strs []) (by rfl) (hown _ (HA2.out.below hbel9)) ⟨w8.heap.size, 0, none⟩ 1 1 [str b] (by rfl) (by rfl) (World.news_of_block (cs := #[str b]) (t := 9) (fr := (0, 0)) (heap_alloc_new w8 _)) (by simp [Value.oneCell']) (by omega) (by decide) (by decide) (by simp; have := HD2.out.start.size; omega) (w8.heap.size + 1) (by simp) ?_; intro g cap w9 hown9 hgrow hat hlt9; have c4 := (hgrow.cell_far ⟨ga, n, none⟩ (by simp; omega) (Ne.symm na)).trans ((Below.cell hbel9 lga).trans c1); have c5 := (hgrow.frozen_far ⟨ga, n, none⟩ (by simp; omega) (Ne.symm na)).trans ((Below.frozen hbel9 lga).trans c3)))
          all_goals
            obtain ⟨⟨us, hAll⟩, hfr, hkc⟩ := (HA2.out.below hbel9).app HV.out (y := []) (m := 0) (by simp) rfl hown9 hgrow (by simpa using hat) (F := fun m => if m < n + 1 then [S.safe.getD m []] else []) (fun m => by
              by_cases e : m = n
              · subst e; rw [if_pos (by omega), if_pos rfl, hb]; rfl
              · rw [if_neg e]
                by_cases e2 : m < n
                · rw [if_pos (by omega), if_pos e2]
                · rw [if_neg (by omega), if_neg e2])
            have hfin : DV w _ p S ∧ _ := And.intro ((HD2.out.below hbel9).loose hfr) (And.intro hAll (hkc _ _ _ _ (KT.of_below hbel9 _ _ _ _ HX2.out (by decide) (by decide) (by decide)) (by decide) (by decide) (by decide) (by decide) (by decide) (by decide)))
            clear c4 c5 hAll hfr hkc hown9 hgrow hat hlt9
            go_wp2
            go_roundw
            (next => exact ⟨n + 1, by omega, by go_num, _, us, hfin.1, hfin.2.1, fun m hm => by
              by_cases e : m = n
              · subst e; rw [List.getElem?_set_self (by rw [HA.out.lenS]; exact hlt), hb]
              · rw [List.getElem?_set_ne (Ne.symm e)]; exact HSX.out m (by omega), hfin.2.2⟩)
            (next => simp [intOf]; omega)
        · have hn8 : n = 8 := by omega
          have hlS : S.safe.length = 8 := HO.out.1.len
          obtain rfl : sx = S.safe := by
            apply List.ext_getElem?
            intro m
            rcases Nat.lt_or_ge m 8 with hm | hm
            · rw [hsx m (by omega), List.getD, List.getElem?_eq_getElem (by omega)]; rfl
            · rw [List.getElem?_eq_none (by rw [ha.lenS]; exact hm), List.getElem?_eq_none (by omega)]
          have ha2 := ha.congr (F := fun m => hist S.safe S.cache m) (fun m hm => by rw [if_pos (by omega), HO.out.2.2.1]; rfl)
          have HD := Lib.hid hd
          have HA := Lib.hid ha2
          have HX := Lib.hid hx
          have hl2 : l2 = L2.length := by
            rcases H2.out with ⟨e, rfl⟩ | ⟨ad, cp, e, _⟩
            · simp at e; simp [e]
            · simp at e; exact e.2.1
          have HL2 := Lib.hid hl2
          have HS8 := Lib.hid hlS
          clear hd ha ha2 hx hsx hl2 hlS hn
          go_wp2
          clear hge hn8
          go_loopw [116] (fun i wr => ∃ j : Nat, j ≤ l2 ∧ i = .int .i64 j ∧ ∃ D vs, DV w wr p D ∧ Open8 D ∧ D.safe = S.safe ∧ D.calls ≤ S.calls + j ∧ D.cache.length ≤ j ∧ AllAt w wr gs ga S.safe (fun m => hist S.safe D.cache m) vs ∧ wr.heap[w.heap.size]? = some (.cells #[.slice ak lk ck, .int .i64 t, .int .i64 a] 25 (0, 0))) (fun i _ => l2 - (intOf i).toNat)
          case atStart => exact ⟨0, Nat.zero_le _, rfl, S, _, HD.out, HO.out.1, rfl, Nat.le_refl _, by rw [HO.out.2.2.1]; exact Nat.le_refl _, HA.out, HX.out⟩
          case round =>
            obtain ⟨j, hj, rfl, D, vs', hd, ho8, hsf, hcl2, hcc, ha, hx⟩ := hrel
            rcases Nat.lt_or_ge j l2 with hlt | hge
            · obtain ⟨o, ho⟩ : ∃ o, L2[j]? = some o := ⟨L2[j]'(by rw [← HL2.out]; exact hlt), by simp⟩
              obtain ⟨ad, rfl⟩ : ∃ ad, a2 = some ad := by
                rcases H2.out with ⟨e, rfl⟩ | ⟨ad, cp, e, _⟩
                · simp at ho
                · simp at e; exact ⟨ad, e.1⟩
              have KP : Hid (∀ X, Below w.heap.size w X → OpS w (ad.add (j * 7)) o X) := fun X hb => opS H2.out rfl ho hb
              have hlen : o.x.len ≤ 300 := (HG2.out.2 o (List.mem_of_getElem? ho)).2
              have hSc : S.calls ≤ 401 := by rw [HO.out.2.2.2]; omega
              have hcalls : D.calls < 4611686018427387904 := by omega
              obtain ⟨E, hE⟩ : ∃ E, D.writeE o.x.n o.x.bytes.length = E := ⟨_, rfl⟩
              have HD := Lib.hid hd
              have HX := Lib.hid hx
              have HA := Lib.hid ha
              have HQ := Lib.hid (And.intro ho8 (And.intro hsf (And.intro hcl2 hcc)))
              obtain ⟨z0, z1, z2, z3, z4, z5, z6, z7⟩ := KP.out _ HD.out.start
              have Z7 := Lib.hid z7
              clear hd hx ha ho8 hsf hcl2 hcc ho z7
              by_cases hE0 : E = 0
              · subst hE0
                obtain ⟨y1, y2, y3⟩ := write_ok HQ.out.1.plan HQ.out.1.down hE
                rw [HQ.out.1.len] at y2
                have y2' : o.x.n < 8 := by omega
                have y4 : o.x.n.toNat < 8 := by omega
                obtain ⟨v, hv⟩ : ∃ v, vs'[o.x.n.toNat]? = some v := ⟨vs'[o.x.n.toNat]'(by rw [HA.out.len]; exact y4), by simp⟩
                obtain ⟨m, hm⟩ : ∃ m, (hist S.safe D.cache o.x.n.toNat).length = m := ⟨_, rfl⟩
                have hm2 : m ≤ 300 := by have := hist_len S.safe D.cache o.x.n.toNat; have := HQ.out.2.2.2; omega
                have HV := Lib.hid hv
                have HY := Lib.hid y3
                have HM := Lib.hid hm
                have HE := Lib.hid hE
                obtain ⟨b, hb⟩ : ∃ b, o.x.bytes = b := ⟨_, rfl⟩
                have HBB := Lib.hid hb
                clear hv y3 hm hE hb
                go_wp2_with (first | (go_at_call 14; refine (bytes_any o hlen _).mono ?_; rintro e w4 ⟨g, rfl, hrow, _, hb⟩; have hDb := DV.below HD.out hb; have HX := Lib.hid (KT.of_below hb _ _ _ _ HX.out (by decide) (by decide) (by decide)); have HA := Lib.hid (HA.out.below hb); obtain ⟨x0, x1, x2, x3, x4, x5, x6, _⟩ := KP.out _ hDb.start) | (go_at_call 13; refine (writeRow hDb hrow (by simp [OpL.bytes]) hcalls HE.out HY.out).mono ?_; rintro e w5 ⟨rfl, hD2, hkt⟩; have HX := Lib.hid (hkt _ _ _ _ HX.out (by decide) (by decide) (by decide)); have HA := Lib.hid (HA.out.kt hkt); have hcv := conv_bytes (.of_row (w := w5.drew) (b := o.x.bytes) (hkt _ _ _ _ hrow (by decide) (by decide) (by decide)) (by simp [OpL.bytes]; rfl)); obtain ⟨v0, v1, v2, v3, v4, v5, v6, _⟩ := KP.out _ hD2.start))
                have c1 := HA.out.row HV.out
                have c3 := HA.out.fra o.x.n.toNat
                have na := HA.out.na HV.out
                have lga := HA.out.lga
                have c1' := World.new_ne w5 _ c1
                have v1' := World.new_ne w5 _ v1
                have lad : (ad.add (j * 7)).block < w5.heap.size := cell_lt v0
                have hwad : (ad.add (j * 7)).block < w.heap.size := by
                  have := (KP.out w (Below.refl _ _)).1
                  exact cell_lt this
                have nad : v.ownBlock ≠ some (ad.add (j * 7)).block := fun e => by
                  have := ((HA.out.rows _ _ HV.out).lt _ e).1
                  omega
                obtain ⟨i0, q0, q1, q2, q3⟩ := info_parts info9
                have hown : ∀ X, AllAt w X gs ga S.safe (fun m => hist S.safe D.cache m) vs' → X.ownsRow w.heap.size 9 1 v m (strs (hist S.safe D.cache o.x.n.toNat)) := fun X h => h.own HV.out rfl HM.out
                have hbel9 : Below w5.heap.size w5 (w5.alloc (.cells #[str o.x.bytes] 9)).drew := ((Below.refl _ _).alloc (Nat.le_refl _) _).drew
                have lga9 : ga < (w5.alloc (.cells #[str o.x.bytes] 9)).drew.heap.size := Nat.lt_of_lt_of_le lga hbel9.size
                have lad9 : (ad.add (j * 7)).block < (w5.alloc (.cells #[str o.x.bytes] 9)).drew.heap.size := Nat.lt_of_lt_of_le lad hbel9.size
                have hb1 : m + 1 ≤ maxLen := by unfold maxLen; omega
                have hb2 : (m + 1) * 16 ≤ 140737488355328 := by omega
                have hb3 : w.heap.size ≤ (w5.alloc (.cells #[str o.x.bytes] 9)).drew.heap.size := Nat.le_trans hD2.start.size hbel9.size
                have hb4 : (w5.alloc (.cells #[str o.x.bytes] 9)).drew.heap.size = w5.heap.size + 1 := by simp
                have hown5 := hown _ (HA.out.below hbel9)
                have hnews : ∀ i u, [str o.x.bytes][i]? = some u → (w5.alloc (.cells #[str o.x.bytes] 9)).drew.cell? ((⟨w5.heap.size, 0, none⟩ : Addr).add i) = some u := World.news_of_block (cs := #[str o.x.bytes]) (t := 9) (fr := (0, 0)) (heap_alloc_new w5 _)
                have h1c : ∀ u ∈ [str o.x.bytes], u.oneCell' = true := by simp [Value.oneCell']
                go_region_law ((refine step_append_lies _ (by rfl) _ _ _ (by rfl) w.heap.size 9 i0 _ 1 16 Try.underlying38 q0 q1 q2 q3 rfl (by omega) v m (strs (hist S.safe D.cache o.x.n.toNat)) (by rfl) hown5 ⟨w5.heap.size, 0, none⟩ 1 1 [str o.x.bytes] (by rfl) (by rfl) hnews h1c (by omega) hb1 hb2 hb3 (w5.heap.size + 1) hb4 ?_; intro g' cap w9 hown9 hgrow hat hlt9; have c4 := (hgrow.cell_far ⟨ga, o.x.n.toNat, none⟩ lga9 (Ne.symm na)).trans ((Below.cell hbel9 lga).trans c1); have c5 := (hgrow.frozen_far ⟨ga, o.x.n.toNat, none⟩ lga9 (Ne.symm na)).trans ((Below.frozen hbel9 lga).trans c3); have c6 := (hgrow.cell_far ⟨(ad.add (j * 7)).block, (ad.add (j * 7)).off + 1, none⟩ lad9 (Ne.symm nad)).trans ((Below.cell (p := ⟨(ad.add (j * 7)).block, (ad.add (j * 7)).off + 1, none⟩) hbel9 lad).trans v1)))
                all_goals
                  obtain ⟨⟨us, hAll⟩, hfr, hkc⟩ := (HA.out.below hbel9).app HV.out rfl HM.out hown9 hgrow (by simpa using hat) (F := fun m => hist S.safe (D.cache ++ [(o.x.n.toNat, o.x.bytes)]) m) (fun m => by
                    show hist _ _ m = _
                    rw [hist_snoc]
                    by_cases e : o.x.n.toNat = m
                    · rw [if_pos e, if_pos e.symm, e]
                    · rw [if_neg e, if_neg (Ne.symm e), List.append_nil])
                  have hfin : DV w _ p _ ∧ _ := And.intro ((hD2.below hbel9).loose hfr) (And.intro hAll (hkc _ _ _ _ (KT.of_below hbel9 _ _ _ _ HX.out (by decide) (by decide) (by decide)) (by decide) (by decide) (by decide) (by decide) (by decide) (by decide)))
                  clear c4 c5 c6 hAll hfr hkc hown9 hgrow hat hlt9
                  go_wp2
                  go_roundw
                  (next => exact ⟨j + 1, by omega, by go_num, _, us, hfin.1, ⟨HQ.out.1.plan, HQ.out.1.down, HQ.out.1.len⟩, HQ.out.2.1, by have := HQ.out.2.2.1; show D.calls + 1 ≤ _; omega, by have := HQ.out.2.2.2; show (D.cache ++ [_]).length ≤ _; rw [List.length_append, List.length_singleton]; omega, hfin.2.1, hfin.2.2⟩)
                  (next => simp [intOf]; omega)
              · have hE1 : (E == 0) = false := beq_eq_false_iff_ne.2 hE0
                have hno := write_no HQ.out.1.plan (by rw [hE]; exact hE0)
                clear hE0
                go_wp2_with (first | (go_at_call 14; refine (bytes_any o hlen _).mono ?_; rintro e w4 ⟨g, rfl, hrow, _, hb⟩; have hDb := DV.below HD.out hb; have HX := Lib.hid (KT.of_below hb _ _ _ _ HX.out (by decide) (by decide) (by decide)); have HA := Lib.hid (HA.out.below hb); obtain ⟨x0, x1, x2, x3, x4, x5, x6, _⟩ := KP.out _ hDb.start) | (go_at_call 13; refine (writeRow hDb hrow (by simp [OpL.bytes]) hcalls hE hno).mono ?_; rintro e w5 ⟨rfl, hD2, hkt⟩; have HX := Lib.hid (hkt _ _ _ _ HX.out (by decide) (by decide) (by decide)); have HA := Lib.hid (HA.out.kt hkt)))
                go_roundw
                case rel => exact ⟨j + 1, by omega, by go_num, D, vs', hD2, HQ.out.1, HQ.out.2.1, by have := HQ.out.2.2.1; omega, by have := HQ.out.2.2.2; omega, HA.out, HX.out⟩
                case measure => simp [intOf]; omega
            · have hj2 : j = l2 := by omega
              obtain ⟨Dd, hDd⟩ : ∃ E : Dv, { D with down := true } = E := ⟨_, rfl⟩
              have HD := Lib.hid hd
              have HX := Lib.hid hx
              have HA := Lib.hid ha
              have HQ := Lib.hid (And.intro ho8 (And.intro hsf hcc))
              have HDd := Lib.hid hDd
              have HWF : Hid (∀ (c : Cr) (r n : Nat), r = 40 → n < 8 → (Dd.restarted c).up n = 0 ∧ (Dd.restarted ⟨List.replicate r 255, -1, 0⟩).up n = 0 ∧ (hist S.safe D.cache n)[(hist S.safe D.cache n).length - 1]? = some ((Dd.restarted ⟨List.replicate r 255, -1, 0⟩).read n) ∧ (n ≠ tornAt c D.cache 8 → (Dd.restarted c).read n ∈ hist S.safe D.cache n) ∧ ((hist S.safe D.cache n).length = 1 → (Dd.restarted c).read n = S.safe.getD n [])) := fun c r n hr hn => by
                rw [← hsf, ← hDd]
                exact after_crash hd.wf.1 hd.wf.2 (by omega) c hr (by rw [ho8.len]; exact hn)
              clear hd hx ha ho8 hsf hcl2 hcc hDd
              go_wp2_with (first
                | (go_at_call 17; refine (copyR HD.out).mono ?_; rintro e w10 ⟨q, rfl, hT, hkt⟩; have HX := Lib.hid (hkt _ _ _ _ HX.out (by decide) (by decide) (by decide)); have HA := Lib.hid (HA.out.kt hkt); have HT := Lib.hid hT; clear hT hkt)
                | (go_at_call 18; refine (pull2 HT.out HDd.out).mono ?_; rintro e w11 ⟨rfl, hT, hkt⟩; have HX := Lib.hid (hkt _ _ _ _ HX.out (by decide) (by decide) (by decide)); have HA := Lib.hid (HA.out.kt hkt); have HT := Lib.hid hT; clear hT hkt)
                | (go_at_call 18; refine (pull2' HT.out HDd.out).mono ?_; rintro e w12 ⟨rfl, hT, hkt⟩; have HX := Lib.hid (hkt _ _ _ _ HX.out (by decide) (by decide) (by decide)); have HA := Lib.hid (HA.out.kt hkt); have HT := Lib.hid hT; clear hT hkt))
              clear hge hj2
              have hlB : w.heap.size < w12.heap.size := (Array.getElem?_eq_some_iff.1 HX.out).1
              have hbel13 : Below w12.heap.size w12 (w12.alloc (.cells #[.slice none 0 0, .int .i64 (-1), .int .i64 0] 25)) := (Below.refl _ _).alloc (Nat.le_refl _) _
              have hB0 : (w12.alloc (.cells #[.slice none 0 0, .int .i64 (-1), .int .i64 0] 25)).heap[w12.heap.size]? = some (.cells #[.slice none 0 0, .int .i64 (-1), .int .i64 0] 25 (0, 0)) := Array.getElem?_push_size
              have hT := HT.out.below hbel13
              have hA := HA.out.below hbel13
              have hX := KT.of_below hbel13 _ _ _ _ HX.out (by decide) (by decide) (by decide)
              generalize w12.alloc (.cells #[.slice none 0 0, .int .i64 (-1), .int .i64 0] 25) = w13 at hbel13 hB0 hT hA hX ⊢
              obtain ⟨B, hBe⟩ : ∃ B, B = w12.heap.size := ⟨_, rfl⟩
              rw [← hBe] at hB0 hlB
              rw [← hBe]
              have HT := Lib.hid hT
              have HA := Lib.hid hA
              have HX := Lib.hid hX
              have HB0 := Lib.hid hB0
              clear hBe hbel13 hB0 hT hA hX
              go_loopw [158] (fun i wr => ∃ r : Nat, r ≤ 40 ∧ i = .int .i64 r ∧ ∃ ao cp, wr.heap[B]? = some (.cells #[.slice ao r cp, .int .i64 (-1), .int .i64 0] 25 (0, 0)) ∧ wr.ownsRow w.heap.size 5 1 (.slice ao r cp) r (bys (List.replicate r 255)) ∧ Two w wr p q Dd Dd ∧ AllAt w wr gs ga S.safe (fun m => hist S.safe D.cache m) vs' ∧ wr.heap[w.heap.size]? = some (.cells #[.slice ak lk ck, .int .i64 t, .int .i64 a] 25 (0, 0))) (fun i _ => 40 - (intOf i).toNat)
              case atStart => exact ⟨0, Nat.zero_le _, rfl, none, 0, HB0.out, ⟨rfl, .inl ⟨rfl, rfl⟩⟩, HT.out, HA.out, HX.out⟩
              case round =>
                obtain ⟨r, hr, rfl, ao, cp, hb, hown, hT, hA, hX⟩ := hrel
                rcases Nat.lt_or_ge r 40 with hlt | hge
                · have d0 := (cr_cells hb).2.1
                  have dB := (cr_cells hb).1
                  have dne := World.new_ne wr _ d0
                  have dfr := frozen_of_row wr B 0 _ _ hb
                  obtain ⟨i0, q0, q1, q2, q3⟩ := info5'
                  have hbel9 : Below wr.heap.size wr (wr.alloc (.cells #[.int .u8 255] 5)) := (Below.refl _ _).alloc (Nat.le_refl _) _
                  have hown5 := own_fr hown (Fr.of_below hbel9 (fun _ => False)) (fun _ _ e => e)
                  have hb3 : w.heap.size ≤ (wr.alloc (.cells #[.int .u8 255] 5)).heap.size := Nat.le_trans hT.start.size hbel9.size
                  have nb := own5_ne hown hb
                  have hnews : ∀ i u, [Value.int .u8 255][i]? = some u → (wr.alloc (.cells #[.int .u8 255] 5)).cell? ((⟨wr.heap.size, 0, none⟩ : Addr).add i) = some u := World.news_of_block (cs := #[.int .u8 255]) (t := 5) (fr := (0, 0)) (heap_alloc_new wr _)
                  have h1c : ∀ u ∈ [Value.int .u8 255], u.oneCell' = true := by simp [Value.oneCell']
                  have hb1 : r + 1 ≤ maxLen := by unfold maxLen; omega
                  have hb2 : (r + 1) * 1 ≤ 140737488355328 := by omega
                  have HO5 := Lib.hid (And.intro hown5 (And.intro hb3 (And.intro hnews (And.intro h1c (And.intro hb1 hb2)))))
                  have HB := Lib.hid hb
                  have HTT := Lib.hid hT
                  have HAA := Lib.hid hA
                  have HXX := Lib.hid hX
                  have HBL := Lib.hid hbel9
                  clear hb hown hT hA hX hbel9 hown5 hb3 hnews h1c hb1 hb2
                  go_wp2_with (at_builtin; refine wpList_append_lies _ rfl _ _ 23 rfl w.heap.size 5 i0 (.int .u8 0) 1 1 Try.underlying23 q0 q1 q2 q3 rfl (by decide) (.slice ao r cp) r _ rfl HO5.out.1 ⟨wr.heap.size, 0, none⟩ 1 1 [.int .u8 255] rfl rfl HO5.out.2.2.1 HO5.out.2.2.2.1 (by decide) HO5.out.2.2.2.2.1 HO5.out.2.2.2.2.2 HO5.out.2.1 _ rfl ?_; intro g cap w9 hown9 hgrow hat hlt9; have c4 := (hgrow.cell_far ⟨B, 0, none⟩ (Nat.lt_of_lt_of_le dB HBL.out.size) (Ne.symm nb)).trans ((Below.cell HBL.out dB).trans d0); have c5 := (hgrow.frozen_far ⟨B, 0, none⟩ (Nat.lt_of_lt_of_le dB HBL.out.size) (Ne.symm nb)).trans ((Below.frozen HBL.out dB).trans dfr))
                  obtain ⟨z1, z2, z3, z4⟩ := app5 (u := .slice (some ⟨g, 0, none⟩) (r + 1) cap) HO5.out.1 hgrow (KT.of_below HBL.out _ _ _ _ HB.out (by decide) (by decide) (by decide)) (Nat.le_of_lt hlB) rfl
                  have hx13 := z3 _ _ _ _ (KT.of_below HBL.out _ _ _ _ HXX.out (by decide) (by decide) (by decide)) (by decide) (by omega)
                  have hfin : World.ownsRow _ _ _ _ _ _ _ ∧ _ := And.intro (z4 _ _ _ hown9) (And.intro ((HTT.out.below HBL.out).loose z2) (And.intro ((HAA.out.below HBL.out).keep (fun k c t z hk h5 h25 => z3 k c t z hk h5 (fun e => by
                    subst e
                    rw [KT.of_below HBL.out _ _ _ _ HB.out (by decide) (by decide) (by decide)] at hk
                    simp at hk
                    exact h25 hk.2.1.symm))) hx13))
                  refine ⟨⟨r + 1, by omega, by go_num, some ⟨g, 0, none⟩, cap, z1, ?_, hfin.2.1, hfin.2.2.1, hfin.2.2.2⟩, by simp [intOf]; omega⟩
                  rw [List.replicate_succ', show bys (List.replicate r (255 : UInt8) ++ [255]) = bys (List.replicate r 255) ++ [.int .u8 255] by simp [bys]]
                  exact hfin.1
                · have hr40 : r = 40 := by omega
                  have HB := Lib.hid hb
                  have HO := Lib.hid hown
                  have HT := Lib.hid hT
                  have HA := Lib.hid hA
                  have HX := Lib.hid hX
                  have dd := HDd.out
                  have hdn : Dd.down = true := by rw [← dd]
                  obtain ⟨d0, e0, e1, e2⟩ := cr_cells hX
                  obtain ⟨d1, g0, g1, g2⟩ := cr_cells hb
                  obtain ⟨c1, c2, c3, c4, c5, c6⟩ := HC.out
                  have hst := HT.out.start
                  have hks : c.keep ≠ [] → ∀ a, ak = some a → a.block < w.heap.size := fun hne a ha => by
                    rcases c2 with ⟨ad, cap, e, h, _⟩ | ⟨_, h⟩
                    · simp at e; rw [e.1] at ha; cases ha
                      exact h.resolve_left hne
                    · exact absurd h hne
                  have hkv : BytesV wr (.slice ak lk ck) c.keep := by
                    rcases c2 with ⟨ad, cap, e, h, hs⟩ | ⟨h1, h2⟩
                    · refine .inl ⟨ad, cap, e, h.imp id (fun h => Nat.lt_of_lt_of_le h hst.size), ?_⟩
                      rcases h with h | h
                      · rw [h]; intro j u hj; simp [bys] at hj
                      · exact hs.of_block (hst.block _ h)
                    · exact .inr ⟨h1, h2⟩
                  obtain ⟨Ed, hEd⟩ : ∃ E, Dd.restarted c = E := ⟨_, rfl⟩
                  obtain ⟨Fd, hFd⟩ : ∃ E, Dd.restarted ⟨List.replicate r 255, -1, 0⟩ = E := ⟨_, rfl⟩
                  have HEd := Lib.hid hEd
                  have HFd := Lib.hid hFd
                  have H40 := Lib.hid hr40
                  have HCC := Lib.hid (And.intro c1 (And.intro hkv (And.intro c3 (And.intro c4 (And.intro c5 (And.intro c6 hks))))))
                  clear hb hown hT hA hX dd c1 c2 c3 c4 c5 c6 hst hks hkv hEd hFd hr40
                  go_wp2_with (first
                    | (go_at_call 19; refine (restart2 HT.out hdn c HCC.out.1 HCC.out.2.1 (by rw [HCC.out.1]; omega) HCC.out.2.2.1 HCC.out.2.2.2.1 HCC.out.2.2.2.2.1 HCC.out.2.2.2.2.2.1 (fun h a e => .inl (HCC.out.2.2.2.2.2.2 h a e)) HEd.out).mono ?_; rintro e w14 ⟨rfl, hT, hkt⟩; have HA := Lib.hid (HA.out.kt hkt); have HO := Lib.hid (own_kt HO.out (by decide) (by decide) (by decide) hkt); obtain ⟨k1, k2, k3, k4⟩ := cr_cells (hkt _ _ _ _ HB.out (by decide) (by decide) (by decide)); have HT := Lib.hid hT; clear hT hkt)
                    | (go_at_call 19; refine (restart2' HT.out hdn ⟨List.replicate r 255, -1, 0⟩ List.length_replicate (BytesV.of_own HO.out List.length_replicate) (by show (List.replicate r _).length ≤ _; rw [List.length_replicate, H40.out]; decide) rfl rfl (show (-9223372036854775808 : Int) ≤ -1 ∧ (-1 : Int) < 9223372036854775808 from by omega) (show (-9223372036854775808 : Int) ≤ 0 ∧ (0 : Int) < 9223372036854775808 from by omega) (fun _ a e => .inr (own5_row HO.out e)) HFd.out).mono ?_; rintro e w15 ⟨rfl, hT, hkt⟩; have HA := Lib.hid (HA.out.kt hkt); have HT := Lib.hid hT; clear hT hkt))
                  have HF : Hid (∀ n : Nat, n < 8 → Ed.up n = 0 ∧ Fd.up n = 0 ∧ (hist S.safe D.cache n)[(hist S.safe D.cache n).length - 1]? = some (Fd.read n) ∧ (n ≠ tornAt c D.cache 8 → Ed.read n ∈ hist S.safe D.cache n) ∧ ((hist S.safe D.cache n).length = 1 → Ed.read n = S.safe.getD n [])) := fun n hn => by
                    have := HWF.out c r n H40.out hn
                    rw [HEd.out, HFd.out] at this
                    exact this
                  obtain ⟨tz, htz⟩ : ∃ x, tornAt c D.cache 8 = x := ⟨_, rfl⟩
                  rw [htz] at HF
                  clear htz d0 e0 e1 e2 d1 g0 g1 g2 k1 k2 k3 k4 hge
                  go_loopw [20, 176] (fun oth i wr => ∃ n : Nat, n ≤ 8 ∧ i = .int .i64 n ∧ ∃ x : Nat, oth = .int .i64 x ∧ (x = 0 ∨ (x = 1 ∧ tz < n)) ∧ Two w wr p q Ed Fd ∧ AllAt w wr gs ga S.safe (fun m => hist S.safe D.cache m) vs') (fun _ i _ => 8 - (intOf i).toNat)
                  case atStart => exact ⟨0, Nat.zero_le _, rfl, 0, rfl, .inl rfl, HT.out, HA.out⟩
                  case round =>
                    obtain ⟨n, hn, rfl, x, rfl, hx, hT, hA⟩ := hrel
                    rcases Nat.lt_or_ge n 8 with hlt | hge
                    · obtain ⟨f1, f2, f3, f4, f5⟩ := HF.out n hlt
                      obtain ⟨b, hb⟩ : ∃ b, Ed.read n = b := ⟨_, rfl⟩
                      obtain ⟨b', hb'⟩ : ∃ b, Fd.read n = b := ⟨_, rfl⟩
                      rw [hb] at f4 f5
                      rw [hb'] at f3
                      have HT := Lib.hid hT
                      have HA := Lib.hid hA
                      have H3 := Lib.hid f3
                      have H4 := Lib.hid f4
                      have H5 := Lib.hid f5
                      have HXX := Lib.hid hx
                      have HBB := Lib.hid (And.intro hb hb')
                      have hi0 : (0 : Int) ≤ (n : Int) := Int.natCast_nonneg _
                      have hi1 : (n : Int) < 8 := by omega
                      clear hT hA f3 f4 f5 hx hb hb'
                      go_wp2_with (first
                        | (go_at_call 16; (with_reducible refine (read2 HT.out f1 HBB.out.1).mono ?_); rintro e w16 ⟨ao1, cp1, rfl, hN, hT⟩; have HA := Lib.hid (HA.out.below hN.2.1); have HN := Lib.hid hN; have HT := Lib.hid hT; clear hT hN)
                        | (go_at_call 16; (with_reducible refine (read2' HT.out f2 HBB.out.2).mono ?_); rintro e w17 ⟨ao2, cp2, rfl, hN, hT⟩; have HA := Lib.hid (HA.out.below hN.2.1); have hv1 := HN.out.kt (.of_below hN.2.1); have hv2 := hN.bytesV; have HT := Lib.hid hT; clear hT hN))
                      obtain ⟨v, hv⟩ : ∃ v, vs'[n]? = some v := ⟨vs'[n]'(by rw [HA.out.len]; exact hlt), by simp⟩
                      obtain ⟨g, cap, rfl, hcell⟩ := HA.out.form hv (hist_pos _ _ _)
                      have c1 := HA.out.row hv
                      obtain ⟨M, hM⟩ : ∃ M, (hist S.safe D.cache n).length = M := ⟨_, rfl⟩
                      have hMp : 1 ≤ M := by rw [← hM]; exact hist_pos _ _ _
                      have hM2 : M ≤ 300 := by rw [← hM]; have := hist_len S.safe D.cache n; have := HQ.out.2.2; omega
                      have hM3 : (0 : Int) ≤ (M : Int) - 1 := by omega
                      have hM4 : (M : Int) - 1 < (M : Int) := by omega
                      have hM5 : ((M : Int) - 1).toNat = M - 1 := by omega
                      have h3 := H3.out
                      have h5 := H5.out
                      simp only [hM] at c1 h3 h5
                      have c2 := hcell _ _ h3
                      obtain ⟨sn, hsn⟩ : ∃ x, S.safe.getD n [] = x := ⟨_, rfl⟩
                      rw [hsn] at h5
                      have c3 := HA.out.safe (n := n) (b := sn) (by
                        rw [← hsn, List.getD, List.getElem?_eq_getElem (by have := HS8.out; omega)]; rfl)
                      have cv1 := conv_bytes hv1
                      have cv2 := conv_bytes hv2
                      have cv1' : ∀ z, (convert 23 9 (.slice ao1 b.length cp1)).run Try.prog (w17.drewN z) = .ok (.string ⟨b.toArray⟩) (w17.drewN z) := fun z => conv_bytes (hv1.fr (⟨rfl, rfl, rfl, Nat.le_refl _, fun _ _ _ => rfl⟩ : Fr (fun _ => False) w17 (w17.drewN z)) (fun _ _ _ _ e => e))
                      have cv2' : ∀ z, (convert 23 9 (.slice ao2 b'.length cp2)).run Try.prog (w17.drewN z) = .ok (.string ⟨b'.toArray⟩) (w17.drewN z) := fun z => conv_bytes (hv2.fr (⟨rfl, rfl, rfl, Nat.le_refl _, fun _ _ _ => rfl⟩ : Fr (fun _ => False) w17 (w17.drewN z)) (fun _ _ _ _ e => e))
                      have HC := Lib.hid hcell
                      have HV1 := Lib.hid hv1
                      have HHM := Lib.hid hM
                      have HHV := Lib.hid hv
                      clear hv hcell h3 hsn hM hv1 hv2
                      by_cases hM1 : M = 1
                      · have hbs := h5 hM1
                        rw [← hbs] at c3
                        have hm1 : ((M : Int) == 1) = true := by rw [hM1]; rfl
                        clear h5 hM1 hbs
                        go_quiet (fail)
                        have hb18 : Below w17.heap.size w17 (w17.drewN nq) := ⟨rfl, rfl, rfl, Nat.le_refl _, fun _ _ => rfl⟩
                        have hT := HT.out.below hb18
                        have hA := HA.out.below hb18
                        have hV : BytesV (w17.drewN nq) _ b := HV1.out.fr (Fr.of_below hb18 (fun _ => False)) (fun _ _ _ _ e => e)
                        have c1' : (w17.drewN nq).cell? ⟨ga, n, none⟩ = some (.slice (some ⟨g, 0, none⟩) M cap) := c1
                        clear c1 c2 c3 cv1 cv2 cv1' cv2' hb18 hm1
                        generalize w17.drewN nq = w18 at hT hA hV c1' ⊢
                        have HT := Lib.hid hT
                        have HA := Lib.hid hA
                        have HV := Lib.hid hV
                        clear hT hA hV
                        go_wp2
                        clear c1'
                        go_loopw [26, 231] (fun is i wr => ∃ y : Nat, y ≤ M ∧ i = .int .i64 y ∧ is = .bool (((hist S.safe D.cache n).take y).any (· == b)) ∧ Two w wr p q Ed Fd ∧ AllAt w wr gs ga S.safe (fun m => hist S.safe D.cache m) vs' ∧ BytesV wr (.slice ao1 b.length cp1) b) (fun _ i _ => M - (intOf i).toNat)
                        case atStart => exact ⟨0, Nat.zero_le _, rfl, rfl, HT.out, HA.out, HV.out⟩
                        case round =>
                          obtain ⟨y, hy, rfl, rfl, hT, hA, hV⟩ := hrel
                          have c1 := hA.row HHV.out
                          rw [HHM.out] at c1
                          obtain ⟨iv, hiv⟩ : ∃ z, ((hist S.safe D.cache n).take y).any (· == b) = z := ⟨_, rfl⟩
                          rw [hiv]
                          rcases Nat.lt_or_ge y M with hyl | hyg
                          · obtain ⟨e, he⟩ : ∃ e, (hist S.safe D.cache n)[y]? = some e := ⟨(hist S.safe D.cache n)[y]'(by rw [HHM.out]; exact hyl), by simp⟩
                            have hnx : ((hist S.safe D.cache n).take (y + 1)).any (· == b) = (iv || (e == b)) := by rw [List.take_add_one, he, List.any_append, hiv]; simp
                            obtain ⟨g', cap', eq', hcell⟩ := hA.form HHV.out (hist_pos _ _ _)
                            simp at eq'
                            obtain ⟨rfl, rfl⟩ := eq'
                            have c2 := hcell _ _ he
                            have cv : ∀ z, (convert 23 9 (.slice ao1 b.length cp1)).run Try.prog (wr.drewN z) = .ok (.string ⟨b.toArray⟩) (wr.drewN z) := fun z => conv_bytes (hV.fr (⟨rfl, rfl, rfl, Nat.le_refl _, fun _ _ _ => rfl⟩ : Fr (fun _ => False) wr (wr.drewN z)) (fun _ _ _ _ e => e))
                            have hy0 : (0 : Int) ≤ (y : Int) := Int.natCast_nonneg _
                            have hy1 : (y : Int) < (M : Int) := by omega
                            have HT := Lib.hid hT
                            have HA := Lib.hid hA
                            have HV := Lib.hid hV
                            have HNX := Lib.hid hnx
                            clear hT hA hV hiv hcell he hnx
                            cases iv with
                            | true =>
                              go_wp2
                              go_quiet (fail)
                              have hb19 : Below wr.heap.size wr (wr.drewN nq) := ⟨rfl, rfl, rfl, Nat.le_refl _, fun _ _ => rfl⟩
                              have hT2 := HT.out.below hb19
                              have hA2 := HA.out.below hb19
                              have hV2 : BytesV (wr.drewN nq) _ b := HV.out.fr (Fr.of_below hb19 (fun _ => False)) (fun _ _ _ _ e => e)
                              clear c1 c2 cv hb19
                              go_wp2
                              go_roundw
                              case rel => exact ⟨y + 1, by omega, by go_num, by rw [HNX.out]; first | rfl | simp, hT2, hA2, hV2⟩
                              case measure => simp [intOf]; omega
                            | false =>
                              go_wp2
                              go_quiet (fail)
                              have hb19 : Below wr.heap.size wr (wr.drewN nq) := ⟨rfl, rfl, rfl, Nat.le_refl _, fun _ _ => rfl⟩
                              have hT2 := HT.out.below hb19
                              have hA2 := HA.out.below hb19
                              have hV2 : BytesV (wr.drewN nq) _ b := HV.out.fr (Fr.of_below hb19 (fun _ => False)) (fun _ _ _ _ e => e)
                              clear c1 c2 cv hb19
                              go_wp2
                              go_roundw
                              case rel => exact ⟨y + 1, by omega, by go_num, by rw [HNX.out]; first | rfl | simp, hT2, hA2, hV2⟩
                              case measure => simp [intOf]; omega
                          · have HT := Lib.hid hT
                            have HA := Lib.hid hA
                            have HIV : Hid ((hist S.safe D.cache n).any (· == b) = iv) := by
                              show _ = _
                              rw [← hiv, List.take_of_length_le (by rw [HHM.out]; exact hyg)]
                            clear hT hA hV hiv c1
                            cases iv with
                            | true =>
                              go_wp2
                              exact ⟨⟨n + 1, by omega, by go_num, x, rfl, HXX.out.imp id (fun h => ⟨h.1, by omega⟩), HT.out, HA.out⟩, by simp [intOf]; omega⟩
                            | false =>
                              have hnm : b ∉ hist S.safe D.cache n := fun hm => by
                                have h1 : (hist S.safe D.cache n).any (· == b) = true := List.any_eq_true.2 ⟨b, hm, by simp⟩
                                rw [HIV.out] at h1
                                cases h1
                              have htz : n = tz := Classical.byContradiction fun h => hnm (H4.out h)
                              have hx0 : x = 0 := by rcases HXX.out with h | h <;> omega
                              go_wp2
                              exact ⟨⟨n + 1, by omega, by go_num, x + 1, by go_num, .inr ⟨by omega, by omega⟩, HT.out, HA.out⟩, by simp [intOf]; omega⟩
                      · have hm1 : ((M : Int) == 1) = false := beq_eq_false_iff_ne.2 (by omega)
                        clear h5 hM1
                        go_quiet (fail)
                        have hb18 : Below w17.heap.size w17 (w17.drewN nq) := ⟨rfl, rfl, rfl, Nat.le_refl _, fun _ _ => rfl⟩
                        have hT := HT.out.below hb18
                        have hA := HA.out.below hb18
                        have hV : BytesV (w17.drewN nq) _ b := HV1.out.fr (Fr.of_below hb18 (fun _ => False)) (fun _ _ _ _ e => e)
                        have c1' : (w17.drewN nq).cell? ⟨ga, n, none⟩ = some (.slice (some ⟨g, 0, none⟩) M cap) := c1
                        clear c1 c2 c3 cv1 cv2 cv1' cv2' hb18 hm1
                        generalize w17.drewN nq = w18 at hT hA hV c1' ⊢
                        have HT := Lib.hid hT
                        have HA := Lib.hid hA
                        have HV := Lib.hid hV
                        clear hT hA hV
                        go_wp2
                        clear c1'
                        go_loopw [26, 231] (fun is i wr => ∃ y : Nat, y ≤ M ∧ i = .int .i64 y ∧ is = .bool (((hist S.safe D.cache n).take y).any (· == b)) ∧ Two w wr p q Ed Fd ∧ AllAt w wr gs ga S.safe (fun m => hist S.safe D.cache m) vs' ∧ BytesV wr (.slice ao1 b.length cp1) b) (fun _ i _ => M - (intOf i).toNat)
                        case atStart => exact ⟨0, Nat.zero_le _, rfl, rfl, HT.out, HA.out, HV.out⟩
                        case round =>
                          obtain ⟨y, hy, rfl, rfl, hT, hA, hV⟩ := hrel
                          have c1 := hA.row HHV.out
                          rw [HHM.out] at c1
                          obtain ⟨iv, hiv⟩ : ∃ z, ((hist S.safe D.cache n).take y).any (· == b) = z := ⟨_, rfl⟩
                          rw [hiv]
                          rcases Nat.lt_or_ge y M with hyl | hyg
                          · obtain ⟨e, he⟩ : ∃ e, (hist S.safe D.cache n)[y]? = some e := ⟨(hist S.safe D.cache n)[y]'(by rw [HHM.out]; exact hyl), by simp⟩
                            have hnx : ((hist S.safe D.cache n).take (y + 1)).any (· == b) = (iv || (e == b)) := by rw [List.take_add_one, he, List.any_append, hiv]; simp
                            obtain ⟨g', cap', eq', hcell⟩ := hA.form HHV.out (hist_pos _ _ _)
                            simp at eq'
                            obtain ⟨rfl, rfl⟩ := eq'
                            have c2 := hcell _ _ he
                            have cv : ∀ z, (convert 23 9 (.slice ao1 b.length cp1)).run Try.prog (wr.drewN z) = .ok (.string ⟨b.toArray⟩) (wr.drewN z) := fun z => conv_bytes (hV.fr (⟨rfl, rfl, rfl, Nat.le_refl _, fun _ _ _ => rfl⟩ : Fr (fun _ => False) wr (wr.drewN z)) (fun _ _ _ _ e => e))
                            have hy0 : (0 : Int) ≤ (y : Int) := Int.natCast_nonneg _
                            have hy1 : (y : Int) < (M : Int) := by omega
                            have HT := Lib.hid hT
                            have HA := Lib.hid hA
                            have HV := Lib.hid hV
                            have HNX := Lib.hid hnx
                            clear hT hA hV hiv hcell he hnx
                            cases iv with
                            | true =>
                              go_wp2
                              go_quiet (fail)
                              have hb19 : Below wr.heap.size wr (wr.drewN nq) := ⟨rfl, rfl, rfl, Nat.le_refl _, fun _ _ => rfl⟩
                              have hT2 := HT.out.below hb19
                              have hA2 := HA.out.below hb19
                              have hV2 : BytesV (wr.drewN nq) _ b := HV.out.fr (Fr.of_below hb19 (fun _ => False)) (fun _ _ _ _ e => e)
                              clear c1 c2 cv hb19
                              go_wp2
                              go_roundw
                              case rel => exact ⟨y + 1, by omega, by go_num, by rw [HNX.out]; first | rfl | simp, hT2, hA2, hV2⟩
                              case measure => simp [intOf]; omega
                            | false =>
                              go_wp2
                              go_quiet (fail)
                              have hb19 : Below wr.heap.size wr (wr.drewN nq) := ⟨rfl, rfl, rfl, Nat.le_refl _, fun _ _ => rfl⟩
                              have hT2 := HT.out.below hb19
                              have hA2 := HA.out.below hb19
                              have hV2 : BytesV (wr.drewN nq) _ b := HV.out.fr (Fr.of_below hb19 (fun _ => False)) (fun _ _ _ _ e => e)
                              clear c1 c2 cv hb19
                              go_wp2
                              go_roundw
                              case rel => exact ⟨y + 1, by omega, by go_num, by rw [HNX.out]; first | rfl | simp, hT2, hA2, hV2⟩
                              case measure => simp [intOf]; omega
                          · have HT := Lib.hid hT
                            have HA := Lib.hid hA
                            have HIV : Hid ((hist S.safe D.cache n).any (· == b) = iv) := by
                              show _ = _
                              rw [← hiv, List.take_of_length_le (by rw [HHM.out]; exact hyg)]
                            clear hT hA hV hiv c1
                            cases iv with
                            | true =>
                              go_wp2
                              exact ⟨⟨n + 1, by omega, by go_num, x, rfl, HXX.out.imp id (fun h => ⟨h.1, by omega⟩), HT.out, HA.out⟩, by simp [intOf]; omega⟩
                            | false =>
                              have hnm : b ∉ hist S.safe D.cache n := fun hm => by
                                have h1 : (hist S.safe D.cache n).any (· == b) = true := List.any_eq_true.2 ⟨b, hm, by simp⟩
                                rw [HIV.out] at h1
                                cases h1
                              have htz : n = tz := Classical.byContradiction fun h => hnm (H4.out h)
                              have hx0 : x = 0 := by rcases HXX.out with h | h <;> omega
                              go_wp2
                              exact ⟨⟨n + 1, by omega, by go_num, x + 1, by go_num, .inr ⟨by omega, by omega⟩, HT.out, HA.out⟩, by simp [intOf]; omega⟩
                    · have hx1 : (x : Int) ≤ 1 := by omega
                      have hst := Lib.hid hT.start
                      clear hT hA hx
                      go_wp2
                      go_ret
                      exact ⟨rfl, hst.out⟩
end Go.Proofs.Ytbmankbbkemkcaa
