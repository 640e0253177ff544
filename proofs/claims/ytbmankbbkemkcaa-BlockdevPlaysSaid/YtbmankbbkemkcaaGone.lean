/- calls on none; refusals. -/
import Derived.Test.YtbmankbbkemkcaaFull
namespace Go.Proofs.Ytbmankbbkemkcaa
open Go.RowKit Go.Shelf
attribute [local go_sem] Oper.semAt_some

theorem Gone.below {w W : World} {v : Value} (h : Gone w v) (hb : Below w.heap.size w W) : Gone W v := by
  rcases h with rfl | ⟨p, c2, c3, c4, rfl, h⟩
  · exact .inl rfl
  · exact .inr ⟨p, c2, c3, c4, rfl, (hb.block p (Array.getElem?_eq_some_iff.1 h).1).trans h⟩
theorem Gone.ptr {w : World} {v : Value} (h : Gone w v) : ∃ q, v = .pointer q := by
  rcases h with rfl | ⟨p, c2, c3, c4, rfl, h⟩ <;> exact ⟨_, rfl⟩

theorem al1 (w : World) (o : Obj) : Below w.heap.size w (w.alloc o) := (Below.refl _ w).alloc (Nat.le_refl _) o
theorem al2 (w : World) (o o2 : Obj) : Below w.heap.size w ((w.alloc o).alloc o2) := (al1 w o).alloc (al1 w o).size o2
theorem al3 (w : World) (o o2 o3 : Obj) : Below w.heap.size w (((w.alloc o).alloc o2).alloc o3) := (al2 w o o2).alloc (al2 w o o2).size o3

set_option maxRecDepth 100000 in
theorem write_gone (v : Value) (w : World) (h : Gone w v) (n : Int) (a : Option Addr) (l c : Nat) : Calls Try.prog 13 #[v, .int .i64 n, .slice a l c] w fun e w' => e = .returned (.int .i64 1) ∧ Below w.heap.size w w' := by
  obtain ⟨q, rfl⟩ := h.ptr
  have H3 := Lib.hid (h.below (al3 w (.cells #[.pointer q] 28) (.cells #[.int .i64 n] 3) (.cells #[.slice a l c] 23)))
  have HB := Lib.hid (al3 w (.cells #[.pointer q] 28) (.cells #[.int .i64 n] 3) (.cells #[.slice a l c] 23))
  clear h
  go_enter Try.func13, Try.ntmps13
  go_wp2_with (go_at_call 44; refine (up_gone _ _ H3.out n).mono ?_; rintro e w' ⟨rfl, rfl⟩)
  go_ret
  exact ⟨rfl, HB.out⟩

set_option maxRecDepth 100000 in
theorem flush_gone (v : Value) (w : World) (h : Gone w v) : Calls Try.prog 15 #[v] w fun e w' => e = .returned (.int .i64 1) ∧ Below w.heap.size w w' := by
  obtain ⟨q, rfl⟩ := h.ptr
  have H3 := Lib.hid (h.below (al1 w (.cells #[.pointer q] 28)))
  have HB := Lib.hid (al1 w (.cells #[.pointer q] 28))
  clear h
  go_enter Try.func15, Try.ntmps15
  go_wp2_with (go_at_call 44; refine (up_gone _ _ H3.out 0).mono ?_; rintro e w' ⟨rfl, rfl⟩)
  go_ret
  exact ⟨rfl, HB.out⟩

theorem cached_gone (v : Value) (w : World) (h : Gone w v) : Calls Try.prog 23 #[v] w fun e w' => e = .returned (.slice none 0 0) ∧ w = w' := by
  have H := Lib.hid h
  clear h
  go_enter Try.func23, Try.ntmps23
  go_wp2_with (go_at_call 51; refine (none_gone _ _ H.out).mono ?_; rintro e w' ⟨rfl, rfl⟩)
  go_ret
  exact ⟨rfl, rfl⟩

theorem copy_gone (v : Value) (w : World) (h : Gone w v) : Calls Try.prog 17 #[v] w fun e w' => e = .returned (.pointer none) ∧ w = w' := by
  have H := Lib.hid h
  clear h
  go_enter Try.func17, Try.ntmps17
  go_wp2_with (go_at_call 51; refine (none_gone _ _ H.out).mono ?_; rintro e w' ⟨rfl, rfl⟩)
  go_ret
  exact ⟨rfl, rfl⟩

set_option maxRecDepth 100000 in
theorem restart_gone (v : Value) (w : World) (h : Gone w v) (ak : Option Addr) (l c : Nat) (t a : Int) : Calls Try.prog 19 #[v, .agg #[.slice ak l c, .int .i64 t, .int .i64 a]] w fun e w' => e = .returned (.int .i64 1) ∧ Below w.heap.size w w' := by
  obtain ⟨q, rfl⟩ := h.ptr
  have H3 := Lib.hid (h.below (al2 w (.cells #[.pointer q] 28) (.cells #[.slice ak l c, .int .i64 t, .int .i64 a] 25)))
  have HB := Lib.hid (al2 w (.cells #[.pointer q] 28) (.cells #[.slice ak l c, .int .i64 t, .int .i64 a] 25))
  clear h
  go_enter Try.func19, Try.ntmps19
  go_wp2_with (go_at_call 51; refine (none_gone _ _ H3.out).mono ?_; rintro e w' ⟨rfl, rfl⟩)
  go_ret
  exact ⟨rfl, HB.out⟩

set_option maxRecDepth 100000 in
theorem restart_up (p : Nat) (vs vc : Value) (D : Dv) (w : World) (h : DevAt w p vs vc D) (hd : D.down = false) (ak : Option Addr) (l c : Nat) (t a : Int) : Calls Try.prog 19 #[.pointer (some ⟨p, 0, none⟩), .agg #[.slice ak l c, .int .i64 t, .int .i64 a]] w fun e w' => e = .returned (.int .i64 2) ∧ Below w.heap.size w w' := by
  have HB := Lib.hid (al2 w (.cells #[.pointer (some ⟨p, 0, none⟩)] 28) (.cells #[.slice ak l c, .int .i64 t, .int .i64 a] 25))
  have h2 := h.fr (Fr.of_below HB.out (fun _ => False)) (fun _ _ e => e)
  have h2b := h2.blk
  rw [hd] at h2b
  have c3 := (blk5 h2b).2.2.2.2.1
  have hp := h.foot_lt (.inl rfl)
  have H2 := Lib.hid h2
  clear h h2 h2b
  go_enter Try.func19, Try.ntmps19
  go_wp2_with (go_at_call 51; refine (none_any p vs vc D _ H2.out).mono ?_; rintro e w' ⟨rfl, rfl⟩)
  go_ret
  exact ⟨rfl, HB.out⟩

set_option maxRecDepth 100000 in
set_option maxHeartbeats 400000 in
theorem read_gone (v : Value) (w : World) (h : Gone w v) (n : Int) : Calls Try.prog 16 #[v, .int .i64 n] w fun e w' => e = .returned (.tuple #[.slice none 0 0, .int .i64 1]) ∧ Below w.heap.size w w' := by
  obtain ⟨q, rfl⟩ := h.ptr
  have H3 := Lib.hid (h.below (al3 w (.cells #[.int .i64 n] 3) (.cells #[.slice none 0 0] 23) (.cells #[.int .i64 0] 29)))
  have HB := Lib.hid (al3 w (.cells #[.int .i64 n] 3) (.cells #[.slice none 0 0] 23) (.cells #[.int .i64 0] 29))
  clear h
  refine (callsIn_wide (n := 5)).1 ?_
  refine callsIn_of_wp_marks Try.func16 rfl trivial ?_ rfl
  simp only [Try.ntmps16, List.size_toArray, List.length_cons, List.length_nil, Nat.reduceAdd, Nat.reduceSub, Array.replicate_succ, Array.replicate_zero, List.push_toArray, List.append_toArray, List.nil_append, List.cons_append]
  gi_wp2_with (refine ⟨trivial, ?_⟩; gi_at_call 44; refine (callsIn_wide.2 (up_gone _ _ H3.out n)).mono ?_; rintro e w' ⟨rfl, rfl⟩)
  refine ⟨.tuple #[.slice none 0 0, .int .i64 1], ?_, rfl, al3 w _ _ _⟩
  simp [results, Try.f16, go_sem]

set_option maxRecDepth 100000 in
set_option maxHeartbeats 400000 in
theorem read_err (p : Nat) (vs vc : Value) (D : Dv) (w : World) (h : DevAt w p vs vc D) (n : Int) (hu : D.up n ≠ 0) : Calls Try.prog 16 #[.pointer (some ⟨p, 0, none⟩), .int .i64 n] w fun e w' => e = .returned (.tuple #[.slice none 0 0, .int .i64 (D.up n)]) ∧ Below w.heap.size w w' := by
  have H3 := Lib.hid (h.fr (Fr.of_below (al3 w (.cells #[.int .i64 n] 3) (.cells #[.slice none 0 0] 23) (.cells #[.int .i64 0] 29)) (fun _ => False)) (fun _ _ e => e))
  obtain ⟨u, hud⟩ : ∃ u, D.up n = u := ⟨_, rfl⟩
  have HU := Lib.hid hud
  rw [hud] at hu ⊢
  have hb : (u != 0) = true := by simp [hu]
  clear h hud
  refine (callsIn_wide (n := 5)).1 ?_
  refine callsIn_of_wp_marks Try.func16 rfl trivial ?_ rfl
  simp only [Try.ntmps16, List.size_toArray, List.length_cons, List.length_nil, Nat.reduceAdd, Nat.reduceSub, Array.replicate_succ, Array.replicate_zero, List.push_toArray, List.append_toArray, List.nil_append, List.cons_append]
  gi_wp2_with (refine ⟨trivial, ?_⟩; gi_at_call 44; refine (callsIn_wide.2 (up_any p vs vc D _ H3.out n)).mono ?_; rintro e w' ⟨rfl, rfl⟩; rw [HU.out])
  refine ⟨.tuple #[.slice none 0 0, .int .i64 u], ?_, rfl, al3 w _ _ _⟩
  simp [results, Try.f16, go_sem]
end Go.Proofs.Ytbmankbbkemkcaa
