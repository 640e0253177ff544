/- BlockdevPlays: a call: Plan, Pull, Restart, none. -/
import Derived.Test.YtbmankbbkemkcaaDo
namespace Go.Proofs.Ytbmankbbkemkcaa
open Go.RowKit Go.Shelf Go.Maps

theorem blk7 {w : World} {p : Nat} {c0 c1 c2 c3 c4 c5 c6 : Value} {t : Nat} (h : w.heap[p]? = some (.cells #[c0, c1, c2, c3, c4, c5, c6] t (0, 0))) :
    w.cell? ⟨p, 0, none⟩ = some c0 ∧ w.cell? ⟨p, 1, none⟩ = some c1 ∧ w.cell? ⟨p, 2, none⟩ = some c2 ∧ w.cell? ⟨p, 3, none⟩ = some c3 ∧ w.cell? ⟨p, 4, none⟩ = some c4 ∧ w.cell? ⟨p, 5, none⟩ = some c5 ∧ w.cell? ⟨p, 6, none⟩ = some c6 := by
  refine ⟨?_, ?_, ?_, ?_, ?_, ?_, ?_⟩ <;> (rw [cell_of_row w p _ _ _ _ h]; rfl)

theorem OpB.keepAt {w₀ X : World} {o : OpX} (h : OpB w₀ o) (hb : Below w₀.heap.size w₀ X) : BytesV X (.slice o.ak o.x.c.keep.length o.ck) o.x.c.keep := by
  rcases h.ok.keep with ⟨ad, cap, e, hl, hs⟩ | ⟨h1, h2⟩
  · refine .inl ⟨ad, cap, e, hl.imp id (fun h => Nat.lt_of_lt_of_le h hb.size), ?_⟩
    rcases hl with hl | hl
    · rw [hl]; intro j u hj; simp [bys] at hj
    · exact hs.of_block (hb.block _ hl)
  · exact .inr ⟨h1, h2⟩

section
variable {w₀ w : World} {p q r mb N : Nat} {D E : Dv}

set_option maxRecDepth 100000 in
set_option maxHeartbeats 1000000 in
theorem do_plan (h : Two w₀ w p q D E) (hr : RefE w₀ w r mb N D) (i : Int) (hi : I64 i) (v2 v3 v4 v5 v6 : Value) : Calls Try.prog 26 #[.pointer (some ⟨p, 0, none⟩), .pointer (some ⟨r, 0, none⟩), .agg #[.int .i64 2, .int .i64 i, v2, v3, v4, v5, v6]] w fun e w' => e = .returned (.bool true) ∧ DoR w₀ w p q r mb N D E w' := by
  obtain ⟨n, vc, Vs, F, hn, hR⟩ := hr
  have hb1 : Below w.heap.size w (w.alloc (.cells #[.int .i64 2, .int .i64 i, v2, v3, v4, v5, v6] 34)) := (Below.refl _ w).alloc (Nat.le_refl _) _
  have hB1 : (w.alloc (.cells #[.int .i64 2, .int .i64 i, v2, v3, v4, v5, v6] 34)).heap[w.heap.size]? = some (.cells #[.int .i64 2, .int .i64 i, v2, v3, v4, v5, v6] 34 (0, 0)) := Array.getElem?_push_size
  have HT := Lib.hid (h.below hb1)
  have HR := Lib.hid (hR.ko (.of_below hb1))
  have HK := Lib.hid (KX.of_below hb1)
  have HBX := Lib.hid hB1
  have HL := Lib.hid (plan_len D i)
  obtain ⟨x, hx⟩ : ∃ x, D.planE i = x := ⟨_, rfl⟩
  obtain ⟨D', hD'⟩ : ∃ D', D.setPlan i = D' := ⟨_, rfl⟩
  have HX := Lib.hid (And.intro hx (And.intro hD' hi.2))
  clear hb1 hB1 h hR hx hD' hi
  go_enter Try.func26, Try.ntmps26
  go_wp2_with (first
    | (go_at_call 21; refine (planO HT.out (by have := HX.out.2.2; omega) HX.out.1 HX.out.2.1).mono ?_; rintro e w2 ⟨rfl, hT, hko⟩; have HT := Lib.hid hT; have HR := Lib.hid (HR.out.ko hko); have HK := Lib.hid (HK.out.trans hko.kx); obtain ⟨_, k1, _⟩ := blk7 (hko.cells HBX.out); clear hT hko)
    | (go_at_call 57; refine (setPlan_any HR.out HX.out.1 HX.out.2.1).mono ?_; rintro e w3 ⟨rfl, hR, hF0⟩; have hF := hF0.mono (T := RS r mb vc) (fun k _ e => .inl e); have HT := Lib.hid (HT.out.ref HR.out hF); have HK := Lib.hid (HK.out.trans (HR.out.kx hF)); have HR := Lib.hid hR; clear hR hF hF0))
  go_ret
  exact ⟨rfl, D', HT.out, ⟨n, vc, Vs, F, by omega, HR.out⟩, by rw [← HX.out.2.1]; exact HL.out.2, by rw [← HX.out.2.1]; exact HL.out.1, HK.out⟩

set_option maxRecDepth 100000 in
set_option maxHeartbeats 1000000 in
theorem do_pull (h : Two w₀ w p q D E) (hr : RefE w₀ w r mb N D) (v1 v2 v3 v4 v5 v6 : Value) : Calls Try.prog 26 #[.pointer (some ⟨p, 0, none⟩), .pointer (some ⟨r, 0, none⟩), .agg #[.int .i64 3, v1, v2, v3, v4, v5, v6]] w fun e w' => e = .returned (.bool true) ∧ DoR w₀ w p q r mb N D E w' := by
  obtain ⟨n, vc, Vs, F, hn, hR⟩ := hr
  have hb1 : Below w.heap.size w (w.alloc (.cells #[.int .i64 3, v1, v2, v3, v4, v5, v6] 34)) := (Below.refl _ w).alloc (Nat.le_refl _) _
  have HT := Lib.hid (h.below hb1)
  have HR := Lib.hid (hR.ko (.of_below hb1))
  have HK := Lib.hid (KX.of_below hb1)
  clear hb1 h hR
  go_enter Try.func26, Try.ntmps26
  go_wp2_with (first
    | (go_at_call 18; refine (pullO HT.out rfl).mono ?_; rintro e w2 ⟨rfl, hT, hko⟩; have HT := Lib.hid hT; have HR := Lib.hid (HR.out.ko hko); have HK := Lib.hid (HK.out.trans hko.kx); obtain ⟨hp, _, _, _, _, c4, _, fz⟩ := blk6 HR.out.blk; have f4 := fz 4; clear hT hko))
  go_ret
  have hf : Fr (fun k => k = r) w2 (w2.setCell ⟨r, 4, none⟩ (.bool true)) := Fr.one w2 r 4 _
  have hF := hf.mono (T := RS r mb vc) (fun k _ e => .inl e)
  exact ⟨rfl, _, HT.out.ref HR.out hF, ⟨n, vc, Vs, F, by omega, HR.out.turn (D' := { D with down := true }) hf rfl rfl (blk_set HR.out.blk rfl)⟩, by show D.calls ≤ _; omega, rfl, HK.out.trans (HR.out.kx hF)⟩

set_option maxRecDepth 100000 in
set_option maxHeartbeats 1000000 in
theorem do_none (h : Two w₀ w p q D E) (hr : RefE w₀ w r mb N D) (j : Int) (hj : j ≠ 0 ∧ j ≠ 1 ∧ j ≠ 2 ∧ j ≠ 3 ∧ j ≠ 4 ∧ j ≠ 5) (v1 v2 v3 v4 v5 v6 : Value) : Calls Try.prog 26 #[.pointer (some ⟨p, 0, none⟩), .pointer (some ⟨r, 0, none⟩), .agg #[.int .i64 j, v1, v2, v3, v4, v5, v6]] w fun e w' => e = .returned (.bool true) ∧ DoR w₀ w p q r mb N D E w' := by
  obtain ⟨n, vc, Vs, F, hn, hR⟩ := hr
  have hb1 : Below w.heap.size w (w.alloc (.cells #[.int .i64 j, v1, v2, v3, v4, v5, v6] 34)) := (Below.refl _ w).alloc (Nat.le_refl _) _
  have t0 : (j == 0) = false := beq_eq_false_iff_ne.2 hj.1
  have t1 : (j == 1) = false := beq_eq_false_iff_ne.2 hj.2.1
  have t2 : (j == 2) = false := beq_eq_false_iff_ne.2 hj.2.2.1
  have t3 : (j == 3) = false := beq_eq_false_iff_ne.2 hj.2.2.2.1
  have t4 : (j == 4) = false := beq_eq_false_iff_ne.2 hj.2.2.2.2.1
  have t5 : (j == 5) = false := beq_eq_false_iff_ne.2 hj.2.2.2.2.2
  have HT := Lib.hid (h.below hb1)
  have HR := Lib.hid (hR.ko (.of_below hb1))
  have HK := Lib.hid (KX.of_below hb1)
  clear hb1 h hR hj
  go_enter Try.func26, Try.ntmps26
  go_wp2
  go_ret
  exact ⟨rfl, D, HT.out, ⟨n, vc, Vs, F, by omega, HR.out⟩, by omega, rfl, HK.out⟩

set_option maxRecDepth 100000 in
set_option maxHeartbeats 1000000 in
theorem do_restart (h : Two w₀ w p q D E) (hr : RefE w₀ w r mb N D) (hN : N + 256 < maxLen) (v1 v2 v3 : Value) {o : OpX} (ho : OpB w₀ o) : Calls Try.prog 26 #[.pointer (some ⟨p, 0, none⟩), .pointer (some ⟨r, 0, none⟩), .agg #[.int .i64 4, v1, v2, v3, .slice o.ak o.x.c.keep.length o.ck, .int .i64 o.x.c.torn, .int .i64 o.x.c.at_]] w fun e w' => e = .returned (.bool true) ∧ DoR w₀ w p q r mb N D E w' := by
  obtain ⟨n, vc, Vs, F, hn, hR⟩ := hr
  obtain ⟨lk, hlk⟩ : ∃ lk, o.x.c.keep.length = lk := ⟨_, rfl⟩
  have hk0 := ho.ok.keep
  rw [hlk]
  have hb1 : Below w.heap.size w (w.alloc (.cells #[.int .i64 4, v1, v2, v3, .slice o.ak lk o.ck, .int .i64 o.x.c.torn, .int .i64 o.x.c.at_] 34)) := (Below.refl _ w).alloc (Nat.le_refl _) _
  have hB1 : (w.alloc (.cells #[.int .i64 4, v1, v2, v3, .slice o.ak lk o.ck, .int .i64 o.x.c.torn, .int .i64 o.x.c.at_] 34)).heap[w.heap.size]? = some (.cells #[.int .i64 4, v1, v2, v3, .slice o.ak lk o.ck, .int .i64 o.x.c.torn, .int .i64 o.x.c.at_] 34 (0, 0)) := Array.getElem?_push_size
  have HT := Lib.hid (h.below hb1)
  have HR := Lib.hid (hR.ko (.of_below hb1))
  have HK := Lib.hid (KX.of_below hb1)
  have HBX := Lib.hid hB1
  have HO := Lib.hid (And.intro hlk (And.intro ho h.wf))
  have HKP : Hid (∀ X, Below w₀.heap.size w₀ X → BytesV X (.slice o.ak lk o.ck) o.x.c.keep) := fun X hb => by
    rw [← hlk]; exact ho.keepAt hb
  have HLK : Hid (lk ≤ 64) := by
    show lk ≤ 64
    rw [← hlk]; exact ho.keep
  clear hb1 hB1 h hR hk0
  cases hdn : D.down with
  | true =>
    obtain ⟨D', hD'⟩ : ∃ D', D.restarted o.x.c = D' := ⟨_, rfl⟩
    have HD' := Lib.hid hD'
    clear hD'
    go_enter Try.func26, Try.ntmps26
    go_wp2_with (first
      | (go_at_call 19; refine (restartO HT.out hdn o.x.c HO.out.1 (HKP.out _ HT.out.start) HO.out.2.1.keep rfl rfl HO.out.2.1.ok.i4 HO.out.2.1.ok.i5 HO.out.2.1.old HD'.out).mono ?_; rintro e w2 ⟨rfl, hT, hko⟩; have HS := Lib.hid hT.start; have HT := Lib.hid hT; have HR := Lib.hid (HR.out.ko hko); have HK := Lib.hid (HK.out.trans hko.kx); obtain ⟨_, _, _, _, k4, k5, k6⟩ := blk7 (hko.cells HBX.out); clear hT hko)
      | (go_at_call 58; refine (refRestart_any HR.out HS.out hdn HO.out.2.2.2.2.2.2.1 HO.out.2.2.1 HO.out.2.2.2.1 HO.out.2.2.2.2.1 (by omega) o.x.c HO.out.1 (HKP.out _ (Below.refl _ _)) HLK.out rfl rfl HD'.out).mono ?_; rintro e w3 ⟨rfl, hR, hF⟩; have HT := Lib.hid (HT.out.ref HR.out hF); have HK := Lib.hid (HK.out.trans (HR.out.kx hF)); have HR := Lib.hid hR; clear hR hF))
    go_ret
    obtain ⟨n', vc', Vs', F', hn', hR'⟩ := HR.out
    exact ⟨rfl, D', HT.out, ⟨n', vc', Vs', F', by omega, hR'⟩, by rw [← HD'.out]; show D.calls ≤ _; omega, by rw [← HD'.out]; exact fold2_length _ _, HK.out⟩
  | false =>
    go_enter Try.func26, Try.ntmps26
    go_wp2_with (first
      | (go_at_call 19; refine (restartUpO HT.out hdn _ _ _ _ _).mono ?_; rintro e w2 ⟨rfl, hT, hko⟩; have HT := Lib.hid hT; have HR := Lib.hid (HR.out.ko hko); have HK := Lib.hid (HK.out.trans hko.kx); obtain ⟨_, _, _, _, k4, k5, k6⟩ := blk7 (hko.cells HBX.out); clear hT hko)
      | (go_at_call 58; refine (refRestart_up HR.out hdn _ _ _).mono ?_; rintro e w3 ⟨rfl, hb⟩; have HT := Lib.hid (HT.out.below hb); have HK := Lib.hid (HK.out.trans (.of_below hb)); have HR := Lib.hid (HR.out.ko (.of_below hb)); clear hb))
    go_ret
    exact ⟨rfl, D, HT.out, ⟨n, vc, Vs, F, by omega, HR.out⟩, by omega, rfl, HK.out⟩
end
end Go.Proofs.Ytbmankbbkemkcaa
