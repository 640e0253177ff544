/- BlockdevPlays: a call: Read. -/
import Derived.Test.YtbmankbbkemkcaaDop
namespace Go.Proofs.Ytbmankbbkemkcaa
open Go.RowKit Go.Shelf Go.Maps

section
variable {w₀ w : World} {p q r mb N : Nat} {D E : Dv}

theorem NewB.form {w w' : World} {v : Value} {b : List UInt8} (h : NewB w w' v b) : ∃ g cap, v = .slice (some ⟨g, 0, none⟩) b.length cap ∧ w.heap.size ≤ g := by
  rcases h.1.2 with ⟨e, _⟩ | ⟨g, cap, cur, e, hb, _⟩
  · exact absurd e h.2.2
  · exact ⟨g, cap, e, hb⟩

set_option maxRecDepth 100000 in
set_option maxHeartbeats 1000000 in
theorem do_read_err (h : Two w₀ w p q D E) (hr : RefE w₀ w r mb N D) (i : Int) {x : Int} (hu : D.up i = x) (hx : x ≠ 0) (v2 v3 v4 v5 v6 : Value) : Calls Try.prog 26 #[.pointer (some ⟨p, 0, none⟩), .pointer (some ⟨r, 0, none⟩), .agg #[.int .i64 5, .int .i64 i, v2, v3, v4, v5, v6]] w fun e w' => e = .returned (.bool true) ∧ DoR w₀ w p q r mb N D E w' := by
  obtain ⟨n, vc, Vs, F, hn, hR⟩ := hr
  have hb1 : Below w.heap.size w (w.alloc (.cells #[.int .i64 5, .int .i64 i, v2, v3, v4, v5, v6] 34)) := (Below.refl _ w).alloc (Nat.le_refl _) _
  have hB1 : (w.alloc (.cells #[.int .i64 5, .int .i64 i, v2, v3, v4, v5, v6] 34)).heap[w.heap.size]? = some (.cells #[.int .i64 5, .int .i64 i, v2, v3, v4, v5, v6] 34 (0, 0)) := Array.getElem?_push_size
  have HT := Lib.hid (h.below hb1)
  have HR := Lib.hid (hR.ko (.of_below hb1))
  have HK := Lib.hid (KX.of_below hb1)
  have HBX := Lib.hid hB1
  have HU := Lib.hid (And.intro hu hx)
  have hcn : ∀ X : World, (convert 23 9 (.slice none 0 0)).run Try.prog X = .ok (.string ⟨#[]⟩) X := fun X => conv_bytes (b := []) (.inr ⟨rfl, rfl⟩)
  clear hb1 hB1 h hR hu hx
  go_enter Try.func26, Try.ntmps26
  go_wp2_with (first
    | (go_at_call 16; refine (readErrO HT.out HU.out.1 HU.out.2).mono ?_; rintro e w2 ⟨rfl, hT, hko⟩; have HT := Lib.hid hT; have HR := Lib.hid (HR.out.ko hko); have HK := Lib.hid (HK.out.trans hko.kx); obtain ⟨_, k1, _⟩ := blk7 (hko.cells HBX.out); clear hT hko)
    | (go_at_call 59; refine (refRead_err HR.out HU.out.1 HU.out.2).mono ?_; rintro e w3 ⟨rfl, rfl⟩))
  go_loopw [123] (fun iv wr => iv = .int .i64 0 ∧ wr = w2) (fun _ _ => 0)
  case atStart => exact ⟨rfl, rfl⟩
  case round =>
    obtain ⟨rfl, rfl⟩ := hrel
    go_wp2
    go_ret
    exact ⟨rfl, D, HT.out, ⟨n, vc, Vs, F, by omega, HR.out⟩, by omega, rfl, HK.out⟩

theorem bys_set (bs : List UInt8) (k : Nat) (c : UInt8) : (bys bs).set k (.int .u8 (c.toNat : Int)) = bys (bs.set k c) := by
  unfold bys
  rw [List.map_set]

theorem u8_add1 (c : UInt8) : IntKind.u8.wrap ((c.toNat : Int) + 1) = ((c + 1 : UInt8).toNat : Int) := by
  have h : ∀ x : Fin 256, IntKind.u8.wrap (((x.1 : Nat) : Int) + 1) = (((x.1 + 1) % 256 : Nat) : Int) := by decide +kernel
  have := h ⟨c.toNat, c.toNat_lt⟩
  rw [this, UInt8.toNat_add]
  rfl

set_option maxRecDepth 100000 in
set_option maxHeartbeats 1000000 in
theorem do_read (h : Two w₀ w p q D E) (hr : RefE w₀ w r mb N D) (i : Nat) (hi : i < D.safe.length) (hdn : D.down = false) (v2 v3 v4 v5 v6 : Value) : Calls Try.prog 26 #[.pointer (some ⟨p, 0, none⟩), .pointer (some ⟨r, 0, none⟩), .agg #[.int .i64 5, .int .i64 (i : Int), v2, v3, v4, v5, v6]] w fun e w' => e = .returned (.bool true) ∧ DoR w₀ w p q r mb N D E w' := by
  obtain ⟨n, vc, Vs, F, hn, hR⟩ := hr
  have hu : D.up (i : Int) = 0 := by unfold Dv.up; rw [if_neg (by simp [hdn]), if_neg (by omega)]
  obtain ⟨b, hb⟩ : ∃ b, D.read i = b := ⟨_, rfl⟩
  have hb1 : Below w.heap.size w (w.alloc (.cells #[.int .i64 5, .int .i64 (i : Int), v2, v3, v4, v5, v6] 34)) := (Below.refl _ w).alloc (Nat.le_refl _) _
  have hB1 : (w.alloc (.cells #[.int .i64 5, .int .i64 (i : Int), v2, v3, v4, v5, v6] 34)).heap[w.heap.size]? = some (.cells #[.int .i64 5, .int .i64 (i : Int), v2, v3, v4, v5, v6] 34 (0, 0)) := Array.getElem?_push_size
  have HWF := Lib.hid h.wf
  have HT := Lib.hid h
  have HR := Lib.hid hR
  have HB := Lib.hid hb1
  have HBX := Lib.hid hB1
  have HU := Lib.hid (And.intro hu hb)
  clear hb1 hB1 h hR hu hb
  go_enter Try.func26, Try.ntmps26
  go_wp2_with (first
    | (go_at_call 16; (with_reducible refine (read2 (HT.out.below HB.out) HU.out.1 HU.out.2).mono ?_); rintro e w2 ⟨ao, cap, rfl, hN, -⟩; obtain ⟨_, k1, _⟩ := blk7 ((KO.of_below hN.2.1).cells HBX.out); have HB := Lib.hid (HB.out.trans (hN.2.1.mono HB.out.size)); have HN := Lib.hid hN; clear hN)
    | (go_at_call 59; (with_reducible refine (refRead_any (HR.out.ko (.of_below HB.out)) hdn HWF.out.2.2.2.2.1 i hi HWF.out.2.2.1 HWF.out.1).mono ?_); rintro e w3 ⟨g2, cap2, rfl, hv, hb⟩; rw [HU.out.2] at hv; have cv1 := conv_bytes (HN.out.bytesV.fr (Fr.of_below hb (fun _ => False)) (fun _ _ _ _ e => e)); have cv2 := conv_bytes hv; have HB := Lib.hid (HB.out.trans (hb.mono HB.out.size)); have HB3 := Lib.hid hb; clear hb hv))
  obtain ⟨ga, capa, ea, hga⟩ := HN.out.form
  simp at ea
  obtain ⟨rfl, rfl⟩ := ea
  have hga2 : w.heap.size ≤ ga := Nat.le_trans ((Below.refl w.heap.size w).alloc (Nat.le_refl _) _).size hga
  have hO3 := own_base (own_fr HN.out.1 (Fr.of_below HB3.out (fun _ => False)) (fun _ _ e => e)) (show w.heap.size ≤ _ from ((Below.refl w.heap.size w).alloc (Nat.le_refl _) _).size)
  have HO3 := Lib.hid hO3
  clear hO3 hga cv1 cv2
  have hbl : b.length ≤ 9223372036854775807 := by
    rcases HO3.out.2 with ⟨e, _⟩ | ⟨g3, cap3, cur3, e, _, _, h1, h2, _⟩
    · cases e
    · unfold maxLen at h2; omega
  go_loopw [123] (fun iv wr => ∃ k : Nat, k ≤ b.length ∧ iv = .int .i64 k ∧ ∃ bs : List UInt8, bs.length = b.length ∧ wr.ownsRow w.heap.size 5 1 (.slice (some ⟨ga, 0, none⟩) b.length cap) b.length (bys bs) ∧ Below w.heap.size w wr) (fun iv _ => b.length - (intOf iv).toNat)
  case atStart => exact ⟨0, Nat.zero_le _, rfl, b, rfl, HO3.out, HB.out⟩
  case round =>
    obtain ⟨k, hk, rfl, bs, hbs, hO, hB⟩ := hrel
    rcases Nat.lt_or_ge k b.length with hlt | hge
    · obtain ⟨y, hy⟩ : ∃ y, bs[k]? = some y := ⟨bs[k]'(by omega), by simp⟩
      have z1 : wr.cell? ⟨ga, k, none⟩ = some (.int .u8 (y.toNat : Int)) := by
        rw [← addk]
        exact hO.cells (g := ga) rfl k _ (by simp [bys, hy])
      have z2 : wr.frozen? ⟨ga, k, none⟩ = false := by
        rcases hO.2 with ⟨e3, _⟩ | ⟨g3, cap3, cur3, e3, _, hg3, _⟩
        · cases e3
        · cases e3; exact frozen_of_row _ _ _ _ _ hg3
      have hw := u8_add1 y
      have hO2 := own_set1 (i := k) hO (.int .u8 ((y + 1 : UInt8).toNat : Int))
      rw [bys_set] at hO2
      have hB2 : Below w.heap.size w (wr.setCell ⟨ga, k, none⟩ (.int .u8 ((y + 1 : UInt8).toNat : Int))) := hB.setCell (p := ⟨ga, k, none⟩) hga2 _
      have HO2 := Lib.hid (And.intro hO2 hB2)
      have hi0 : (0 : Int) ≤ (k : Int) := Int.natCast_nonneg _
      have hi1 : (k : Int) < (b.length : Int) := by omega
      clear hO hB hO2 hB2 hy
      go_wp2
      go_roundw
      case rel => exact ⟨k + 1, by omega, by go_num, bs.set k (y + 1), by rw [List.length_set]; exact hbs, HO2.out.1, HO2.out.2⟩
      case measure => simp [intOf]; omega
    · have HB4 := Lib.hid hB
      clear hO hB
      go_wp2
      go_ret
      exact ⟨rfl, D, HT.out.below HB4.out, ⟨n, vc, Vs, F, by omega, HR.out.ko (.of_below HB4.out)⟩, by omega, rfl, .of_below HB4.out⟩
end
end Go.Proofs.Ytbmankbbkemkcaa
