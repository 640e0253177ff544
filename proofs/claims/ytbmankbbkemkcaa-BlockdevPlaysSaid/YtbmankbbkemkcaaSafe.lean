/- Safe, Cached, Copy. -/
import Derived.Test.YtbmankbbkemkcaaFlush
namespace Go.Proofs.Ytbmankbbkemkcaa
open Go.RowKit

/-- bytes in new memory -/
def NewB (w w' : World) (v : Value) (b : List UInt8) : Prop := w'.ownsRow w.heap.size 5 1 v b.length (bys b) ∧ Below w.heap.size w w' ∧ v ≠ .slice none 0 0

theorem DevAt.seg {w : World} {p : Nat} {vs vc : Value} {D : Dv} (h : DevAt w p vs vc D) {g cap : Nat} (hvs : vs = .slice (some ⟨g, 0, none⟩) D.safe.length cap) {n : Nat} {b : List UInt8} (hb : D.safe[n]? = some b) : Seg w ⟨g, n * 128, none⟩ (bys b) := by
  have := h.safe
  rw [hvs] at this
  exact own_seg this rfl (fun y hy => by rw [bys_length]; exact h.lens y hy) n b hb

def Dv.safeE (D : Dv) (n : Int) : Int := if n < 0 ∨ (D.safe.length : Int) ≤ n then 121 else 0

set_option maxRecDepth 100000 in
theorem safe_any (p : Nat) (vs vc : Value) (D : Dv) (w : World) (h : DevAt w p vs vc D) (n : Nat) (b : List UInt8) (hb : D.safe[n]? = some b) :
    Calls Try.prog 24 #[.pointer (some ⟨p, 0, none⟩), .int .i64 (n : Int)] w fun e w' => ∃ v, e = .returned (.tuple #[v, .int .i64 0]) ∧ NewB w w' v b := by
  obtain ⟨hp, c0, c1, c2, c3, c4, f0, f1, f2, f3, f4⟩ := blk5 h.blk
  obtain ⟨g, cap, hs, hg⟩ := h.safeForm
  have hn : n < D.safe.length := (List.getElem?_eq_some_iff.1 hb).1
  have hl : b.length = 128 := h.lens b (List.mem_of_getElem? hb)
  have HS := Lib.hid (h.seg hs hb)
  have hm := h.most
  rw [hs] at c0
  clear hs
  have H := Lib.hid h
  have HL := Lib.hid hl
  clear h hl hb
  go_enter Try.func24, Try.ntmps24
  go_wp2_with (first | (go_at_call 51; refine (none_any p vs vc D _ H.out).mono ?_; rintro e w' ⟨rfl, rfl⟩) | (go_at_call 50; refine (clone_bytes ⟨g, n * 128, none⟩ 128 _ (bys b) _ (by rw [bys_length, HL.out]) hg HS.out (one_bys b) (by omega)).mono ?_; rintro e w' ⟨v, rfl, hown, hbel, hne⟩))
  go_ret2
  exact ⟨v, rfl, by rw [HL.out]; exact hown, hbel, hne⟩

theorem safe_bad (p : Nat) (vs vc : Value) (D : Dv) (w : World) (h : DevAt w p vs vc D) (n : Int) (hn : n < 0 ∨ (D.safe.length : Int) ≤ n) :
    Calls Try.prog 24 #[.pointer (some ⟨p, 0, none⟩), .int .i64 n] w fun e w' => e = .returned (.tuple #[.slice none 0 0, .int .i64 121]) ∧ w = w' := by
  obtain ⟨hp, c0, c1, c2, c3, c4, f0, f1, f2, f3, f4⟩ := blk5 h.blk
  obtain ⟨g, cap, hs, hg⟩ := h.safeForm
  rw [hs] at c0
  clear hs
  have H := Lib.hid h
  clear h
  rcases hn with hn | hn
  · go_enter Try.func24, Try.ntmps24
    go_wp2_with (go_at_call 51; refine (none_any p vs vc D _ H.out).mono ?_; rintro e w' ⟨rfl, rfl⟩)
    go_ret2
    exact ⟨rfl, rfl⟩
  · have hn0 : ¬ n < 0 := by omega
    go_enter Try.func24, Try.ntmps24
    go_wp2_with (go_at_call 51; refine (none_any p vs vc D _ H.out).mono ?_; rintro e w' ⟨rfl, rfl⟩)
    go_ret2
    exact ⟨rfl, rfl⟩

theorem safe_gone (v : Value) (w : World) (h : Gone w v) (n : Int) : Calls Try.prog 24 #[v, .int .i64 n] w fun e w' => e = .returned (.tuple #[.slice none 0 0, .int .i64 1]) ∧ w = w' := by
  have H := Lib.hid h
  clear h
  go_enter Try.func24, Try.ntmps24
  go_wp2_with (go_at_call 51; refine (none_gone v _ H.out).mono ?_; rintro e w' ⟨rfl, rfl⟩)
  go_ret2
  exact ⟨rfl, rfl⟩

theorem info3 : (Try.prog.info? 3).map (fun i => (i.zero, i.size, i.bytes)) = some (some (.int .i64 0), 1, 8) := by kernel_rfl
/-- ints as cells -/
def ints (l : List Nat) : List Value := l.map fun (n : Nat) => .int .i64 (n : Int)

set_option maxRecDepth 100000 in
set_option maxHeartbeats 400000 in
theorem cached_any (p : Nat) (vs vc : Value) (D : Dv) (w : World) (h : DevAt w p vs vc D) :
    Calls Try.prog 23 #[.pointer (some ⟨p, 0, none⟩)] w fun e w' => ∃ v, e = .returned v ∧ w'.ownsRow w.heap.size 3 1 v D.cache.length (ints (D.cache.map (·.1))) ∧ Below w.heap.size w w' := by
  obtain ⟨hp, c0, c1, c2, c3, c4, f0, f1, f2, f3, f4⟩ := blk5 h.blk
  obtain ⟨ao, capc, hvc, hao1, hao2⟩ := h.cacheForm
  rw [hvc] at c1
  have hm := h.full
  obtain ⟨i0, hi, hz0, hz1, hz2⟩ := info_parts info85
  obtain ⟨i3, hi3, hz3, hs3, hb3⟩ := info_parts info3
  have HV := Lib.hid hvc
  have H := Lib.hid h
  clear h hvc
  go_enter Try.func23, Try.ntmps23
  go_wp2_with (go_at_call 51; refine (none_any p vs vc D _ H.out).mono ?_; rintro e w' ⟨rfl, rfl⟩)
  go_loopw [3, 14] (fun v i wr => ∃ k : Nat, k ≤ D.cache.length ∧ i = .int .i64 k ∧ wr.ownsRow w.heap.size 3 1 v k (ints ((D.cache.take k).map (·.1))) ∧ Below w.heap.size w wr) (fun _ i _ => D.cache.length - (intOf i).toNat)
  case atStart => exact ⟨0, Nat.zero_le _, rfl, by simpa [ints] using World.ownsRow_nil w w.heap.size 3 1, Below.refl _ _⟩
  case round =>
    obtain ⟨k, hk, rfl, hown, hbel⟩ := hrel
    have hpr := (hbel.block p hp).trans H.out.blk
    by_cases hlt : k < D.cache.length
    · obtain ⟨gc, rfl, hgc⟩ : ∃ g, ao = some ⟨g, 0, none⟩ ∧ g < w.heap.size := by
        cases ao with
        | none => have := hao1 rfl; omega
        | some a => obtain ⟨g, rfl, hg⟩ := hao2 a rfl; exact ⟨g, rfl, hg⟩
      obtain ⟨x, hx⟩ : ∃ x, D.cache[k]? = some x := ⟨D.cache[k], by simp [hlt]⟩
      have hxl : x.2.length = 128 := (H.out.lenc x (List.mem_of_getElem? hx)).1
      have hseg : Seg wr ⟨gc, k * 129, none⟩ (wcells x) := by
        have := H.out.cache
        rw [HV.out] at this
        exact (own_seg this rfl (fun y hy => by simp [wcells, bys_length, (H.out.lenc y hy).1]) k x hx).of_block (hbel.block gc hgc)
      have HS := Lib.hid hseg
      have HX := Lib.hid hx
      have HW : Hid (Option.map (fun x => x.size) (Try.prog.info? 85) = some (wcells x).length) := by show _ = _; rw [size85]; simp [wcells, bys_length, hxl]
      have HL : Hid (i0.size = (wcells x).length ∧ zw.cells.size = (wcells x).length) := ⟨by rw [hz1]; simp [wcells, bys_length, hxl], by rw [zw_size]; simp [wcells, bys_length, hxl]⟩
      have q0 : (wr.alloc (.cells (wcells x).toArray 85)).cell? ⟨wr.heap.size, 0, none⟩ = some (.int .i64 (x.1 : Int)) := by
        rw [cell_of_row _ _ 0 _ 85 (0, 0) (heap_alloc_new wr _)]; simp [wcells]
      have hsz := hbel.size
      have HO := Lib.hid hown
      have HB := Lib.hid hbel
      have HN : Hid (∀ j u, [Value.int .i64 (x.1 : Int)][j]? = some u → ((wr.alloc (.cells (wcells x).toArray 85)).alloc (.cells #[.int .i64 (x.1 : Int)] 3)).cell? ((⟨wr.heap.size + 1, 0, none⟩ : Addr).add j) = some u) := by
        intro j u hj
        match j, hj with
        | 0, hj =>
          simp at hj; subst hj
          simp [Addr.add]
      clear hseg hx hown hbel hpr
      go_wp2_with (first | ((with_reducible refine wpList_loadS 85 rfl _ rfl _ rfl _ _ HS.out Try.underlying85 rfl HW.out ?_); simp only [Act.put, List.setIfInBounds_toArray, List.set_cons_zero, List.set_cons_succ]) | ((with_reducible refine wpList_newS 85 rfl rfl rfl 5 rfl _ rfl rfl ?_ (wcells x) ?_ i0 zw hi hz0 HL.out.1 HL.out.2 (one_wcells x) ?_); (next => simp); (next => rfl); simp only [Act.put, List.setIfInBounds_toArray, List.set_cons_zero, List.set_cons_succ]) | (at_builtin; refine wpList_append_own _ rfl _ _ 47 rfl w.heap.size 3 i3 (.int .i64 0) 1 8 Try.underlying47 hi3 hz3 hs3 hb3 rfl (by decide) _ k _ rfl ((HO.out.alloc _).alloc _) ⟨wr.heap.size + 1, 0, none⟩ 1 1 [.int .i64 (x.1 : Int)] rfl rfl HN.out (by simp [Value.oneCell']) (by unfold maxLen; omega) (by omega) (by simp; omega) ?_; intro v' w1 hown1 hgrow1 _))
      have hbel1 : Below w.heap.size w w1 := ((HB.out.alloc hsz _).alloc (by simp; omega) _).grown hgrow1 (by simp; omega) (fun j hj => (HO.out.lt j hj).1)
      have HO1 : Hid (w1.ownsRow w.heap.size 3 1 v' (k + 1) (ints ((D.cache.take (k + 1)).map (·.1)))) := by
        show World.ownsRow _ _ _ _ _ _ _
        rw [List.take_add_one, HX.out]
        simpa [ints] using hown1
      have HB1 := Lib.hid hbel1
      clear hown1 hgrow1 hbel1
      go_wp2
      go_roundw
      case rel => exact ⟨k + 1, by omega, by go_num, HO1.out, HB1.out⟩
      case measure => simp [intOf]; omega
    · obtain rfl : k = D.cache.length := by omega
      have HO := Lib.hid hown
      go_wp2
      go_ret
      exact ⟨_, rfl, by simpa using HO.out, hbel⟩
end Go.Proofs.Ytbmankbbkemkcaa
