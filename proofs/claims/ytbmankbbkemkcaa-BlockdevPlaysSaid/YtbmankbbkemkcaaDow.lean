/- BlockdevPlays: a call: Write. -/
import Derived.Test.YtbmankbbkemkcaaDor
namespace Go.Proofs.Ytbmankbbkemkcaa
open Go.RowKit Go.Shelf Go.Maps

section
variable {w₀ w : World} {p q r mb N n : Nat} {vc : Value} {Vs : List Value} {F : Nat → Option Value} {D E : Dv}

/-- Put, whatever comes -/
theorem refPut_any (h : RefAt w₀ w r mb n vc Vs F D) (hb0 : w₀.heap.size ≤ w.heap.size) (hwf : D.cache.length ≤ 256 ∧ D.plan ≤ 9223372036854775807) {i : Int} {g m : Nat} {b : List UInt8} (hrow : w.heap[g]? = some (.cells (bys b).toArray 5 (0, 0))) (hm : b.length = m) (hcalls : D.calls < 4611686018427387904) (h2 : ∀ v ∈ Vs, v.ownBlock ≠ some g) {x : Int} (hx : D.writeE i b.length = x) {D' : Dv} (hD : D.write i b = D') :
    Calls Try.prog 55 #[.pointer (some ⟨r, 0, none⟩), .int .i64 i, .slice (some ⟨g, 0, none⟩) m m] w fun e w' => e = .returned (.int .i64 x) ∧ ∃ vc' Vs', RefAt w₀ w' r mb n vc' Vs' F D' ∧ (∀ v ∈ Vs', v.ownBlock ≠ some g) ∧ Fr (RS r mb vc) w w' := by
  have hlen := (Array.getElem?_eq_some_iff.1 hrow).1
  by_cases hno : D.up i ≠ 0 ∨ b.length ≠ 128 ∨ 256 ≤ D.cache.length
  · subst hm
    refine (refPut_not h (i := i) (ao := some ⟨g, 0, none⟩) (cap := b.length) hno hx).mono ?_
    rintro e w' ⟨rfl, rfl⟩
    have hw : D.write i b = D := by unfold Dv.write; rw [if_pos hno]
    rw [hw] at hD
    subst hD
    exact ⟨rfl, vc, Vs, h, h2, Fr.refl _ _⟩
  · rcases up_cases (D := D) (i := i) with ⟨_, e⟩ | ⟨_, _, e⟩ | ⟨u1, u2, u3, u4⟩
    · exact absurd (.inl (by rw [e]; decide)) hno
    · exact absurd (.inl (by rw [e]; decide)) hno
    · obtain ⟨k, rfl⟩ : ∃ k : Nat, i = (k : Int) := ⟨i.toNat, by omega⟩
      have hbl : b.length = 128 := by omega
      obtain rfl : m = 128 := by omega
      have hxx : (if D.plan = 1 then 120 else 0) = x := by
        unfold Dv.writeE at hx
        rw [if_neg (show ¬ D.up (k : Int) ≠ 0 by omega), if_neg (show ¬ b.length ≠ 128 by omega), if_neg (show ¬ 256 ≤ D.cache.length by omega)] at hx
        exact hx
      have hDD : ({ D with cache := D.cache ++ [(k, b)] } : Dv).tick = D' := by
        unfold Dv.write at hD
        rw [if_neg hno] at hD
        exact hD
      refine (refPut_in h hb0 u1 (by omega) (.of_row hrow hbl) hbl (by omega) hcalls hwf.2 hxx hDD).mono ?_
      rintro e w' ⟨rfl, ⟨vc', cap1, hR⟩, hF⟩
      refine ⟨rfl, vc', _, hR, fun v hv => ?_, hF⟩
      rcases List.mem_append.1 hv with hv | hv
      · exact h2 v hv
      · simp at hv; subst hv
        simp [Value.ownBlock]; omega

set_option maxRecDepth 100000 in
set_option maxHeartbeats 1000000 in
theorem do_write (h : Two w₀ w p q D E) (hr : RefE w₀ w r mb N D) (hcalls : D.calls < 4611686018427387904) {o : OpX} (ho : OpB w₀ o) (hk : o.x.kind = 0) : Calls Try.prog 26 #[.pointer (some ⟨p, 0, none⟩), .pointer (some ⟨r, 0, none⟩), .agg o.cells.toArray] w fun e w' => e = .returned (.bool true) ∧ DoR w₀ w p q r mb N D E w' := by
  obtain ⟨n, vc, Vs, F, hn, hR⟩ := hr
  have hb1 : Below w.heap.size w (w.alloc (.cells o.cells.toArray 34)) := (Below.refl _ w).alloc (Nat.le_refl _) _
  have hB1 : (w.alloc (.cells o.cells.toArray 34)).heap[w.heap.size]? = some (.cells o.cells.toArray 34 (0, 0)) := Array.getElem?_push_size
  have HWF := Lib.hid h.wf
  have HW0 := Lib.hid h.start.size
  have HT := Lib.hid (h.below hb1)
  have HR := Lib.hid (hR.ko (.of_below hb1))
  have HK := Lib.hid (KX.of_below hb1)
  have HBX := Lib.hid hB1
  have HOLD : Hid (∀ g, w.heap.size ≤ g → (∀ (i : Nat) (v : Value), i < D.safe.length → F i = some v → v.ownBlock ≠ some g) ∧ (∀ v ∈ Vs, v.ownBlock ≠ some g)) := fun g hg => hR.oldF hg
  have HL := Lib.hid (write_len D o.x.n o.x.bytes)
  obtain ⟨x, hx⟩ : ∃ x, D.writeE o.x.n o.x.bytes.length = x := ⟨_, rfl⟩
  obtain ⟨D', hD'⟩ : ∃ D', D.write o.x.n o.x.bytes = D' := ⟨_, rfl⟩
  have HX := Lib.hid (And.intro hx (And.intro hD' ho))
  have hcl : o.cells.toArray = #[.int .i64 0, .int .i64 o.x.n, .int .u8 (o.x.b.toNat : Int), .int .i64 o.x.len, .slice o.ak o.x.c.keep.length o.ck, .int .i64 o.x.c.torn, .int .i64 o.x.c.at_] := by simp [OpX.cells, hk]
  rw [hcl] at HT HR HK HBX ⊢
  have HCL := Lib.hid hcl
  clear hb1 hB1 h hR hx hD' ho hcl hk
  go_enter Try.func26, Try.ntmps26
  go_wp2_with (first
    | (go_at_call 14; rw [← HCL.out]; refine (bytes_any o HX.out.2.2.len _).mono ?_; rw [HCL.out]; rintro e w2 ⟨g, rfl, hrow, hg, hb⟩; have HT := Lib.hid (HT.out.below hb); have HR := Lib.hid (HR.out.ko (.of_below hb)); have HK := Lib.hid (HK.out.trans (.of_below hb)); have HBX := Lib.hid ((KO.of_below hb).cells HBX.out); obtain ⟨_, k1, _⟩ := blk7 HBX.out; have HG := Lib.hid (And.intro hg hrow); clear hrow hg hb)
    | (go_at_call 13; refine (writeO HT.out (.of_row HG.out.2 (by simp [OpL.bytes])) (by simp [Value.ownBlock]; exact HT.out.left.ne HG.out.2) hcalls HX.out.1 HX.out.2.1).mono ?_; rintro e w3 ⟨rfl, hT, hko⟩; have HT := Lib.hid hT; have HR := Lib.hid (HR.out.ko hko); have HK := Lib.hid (HK.out.trans hko.kx); obtain ⟨_, k1, _⟩ := blk7 (hko.cells HBX.out); have HG := Lib.hid (And.intro HG.out.1 (hko.cells HG.out.2)); clear hT hko)
    | (go_at_call 55; refine (refPut_any HR.out HT.out.start.size HWF.out.2.2.2.2 HG.out.2 (by simp [OpL.bytes]) hcalls (HOLD.out g (Nat.le_trans ((Below.refl w.heap.size w).alloc (Nat.le_refl _) _).size HG.out.1)).2 HX.out.1 HX.out.2.1).mono ?_; rintro e w4 ⟨rfl, vc', Vs', hR, hsep, hF⟩; have HT := Lib.hid (HT.out.ref HR.out hF); have HK := Lib.hid (HK.out.trans (HR.out.kx hF)); have HG := Lib.hid (And.intro HG.out.1 (HR.out.other hF HG.out.2 (by decide) (by decide))); have HR := Lib.hid (And.intro hR hsep); clear hR hsep hF))
  have hsz : o.x.size ≤ 300 := by have := HX.out.2.2.len; unfold OpL.size; split <;> omega
  have hg0 : w.heap.size ≤ g := Nat.le_trans ((Below.refl w.heap.size w).alloc (Nat.le_refl _) _).size HG.out.1
  have HG0 := Lib.hid hg0
  clear hg0
  go_loopw [39] (fun iv wr => ∃ k : Nat, k ≤ o.x.size ∧ iv = .int .i64 k ∧ ∃ bs : List UInt8, bs.length = o.x.size ∧ wr.heap[g]? = some (.cells (bys bs).toArray 5 (0, 0)) ∧ Fr (fun k => k = g) w4 wr) (fun iv _ => o.x.size - (intOf iv).toNat)
  case atStart => exact ⟨0, Nat.zero_le _, rfl, o.x.bytes, by simp [OpL.bytes], HG.out.2, Fr.refl _ _⟩
  case round =>
    obtain ⟨k, hk, rfl, bs, hbs, hO, hF⟩ := hrel
    rcases Nat.lt_or_ge k o.x.size with hlt | hge
    · obtain ⟨y, hy⟩ : ∃ y, bs[k]? = some y := ⟨bs[k]'(by omega), by simp⟩
      have z1 : wr.cell? ⟨g, k, none⟩ = some (.int .u8 (y.toNat : Int)) := by
        rw [cell_of_row wr g k _ _ _ hO]; simp [bys, hy]
      have z2 : wr.frozen? ⟨g, k, none⟩ = false := frozen_of_row _ _ _ _ _ hO
      have hw := u8_add1 y
      have hO2 : (wr.setCell ⟨g, k, none⟩ (.int .u8 ((y + 1 : UInt8).toNat : Int))).heap[g]? = some (.cells (bys (bs.set k (y + 1))).toArray 5 (0, 0)) := blk_set hO (by rw [← bys_set]; simp)
      have hF2 : Fr (fun k => k = g) w4 (wr.setCell ⟨g, k, none⟩ (.int .u8 ((y + 1 : UInt8).toNat : Int))) := hF.setCell (p := ⟨g, k, none⟩) (.inl rfl) _
      have HO2 := Lib.hid (And.intro hO2 hF2)
      have hi0 : (0 : Int) ≤ (k : Int) := Int.natCast_nonneg _
      have hi1 : (k : Int) < (o.x.size : Int) := by omega
      clear hO hF hO2 hF2 hy
      go_wp2
      go_roundw
      case rel => exact ⟨k + 1, by omega, by go_num, bs.set k (y + 1), by rw [List.length_set]; exact hbs, HO2.out.1, HO2.out.2⟩
      case measure => simp [intOf]; omega
    · have HF4 := Lib.hid hF
      clear hO hF
      go_wp2
      go_ret
      refine ⟨rfl, D', HT.out.loose (HF4.out.mono fun k _ e => ?_), ⟨n, vc', Vs', F, by omega, HR.out.1.spare HG.out.2 HF4.out (fun i v hi hv => (HOLD.out g HG0.out).1 i v ?_ hv) HR.out.2⟩, by rw [← HX.out.2.1]; exact HL.out.2, by rw [← HX.out.2.1]; exact HL.out.1, fun k c t f hk h1 h2 h3 h4 h5 => ?_⟩
      · subst e
        exact ⟨Nat.le_trans HW0.out HG0.out, _, _, _, HG.out.2, by decide, by decide, by decide⟩
      · rw [← HX.out.2.1, HL.out.1] at hi; exact hi
      · have hk4 := HK.out k c t f hk h1 h2 h3 h4 h5
        refine (HF4.out.block k (Array.getElem?_eq_some_iff.1 hk4).1 (fun e => ?_)).trans hk4
        have := (Array.getElem?_eq_some_iff.1 hk).1
        have := HG0.out
        omega
end
end Go.Proofs.Ytbmankbbkemkcaa
