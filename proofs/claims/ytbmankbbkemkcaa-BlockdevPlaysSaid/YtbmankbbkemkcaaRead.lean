/- Read. -/
import Derived.Test.YtbmankbbkemkcaaBack
import Derived.Deep.RegionWith
namespace Go.Proofs.Ytbmankbbkemkcaa
open Go.RowKit Go.Shelf
attribute [local go_sem] Oper.semAt_some

/-- what Read tells -/
def Dv.read (D : Dv) (n : Nat) : List UInt8 := ((D.cache.reverse.find? fun x => x.1 == n).map (·.2)).getD (D.safe.getD n [])

theorem ownsRow_grown {W W' : World} {row : Option Nat} {base : Nat} {e : TypeId} {s : Nat} {v : Value} {n : Nat} {xs : List Value} (h : W.ownsRow base e s v n xs) (hg : W.grownBy W' row)
    (hr : ∀ r, row = some r → ∃ o, W.heap[r]? = some o ∧ o.isCells = false) : W'.ownsRow base e s v n xs := by
  refine h.kept hg ?_
  cases hv : v.ownBlock with
  | none => exact .inl rfl
  | some k =>
    refine .inr fun e => ?_
    obtain ⟨o, ho, hc⟩ := hr k e.symm
    rcases h.2 with ⟨rfl, _⟩ | ⟨g, cap, cur, rfl, _, hgg, _⟩
    · simp [Value.ownBlock] at hv
    · simp [Value.ownBlock] at hv
      subst hv
      rw [hgg] at ho
      cases ho
      simp [Obj.isCells] at hc

theorem heap_grown {W W' : World} {row : Option Nat} {k : Nat} {c : Array Value} {t : Nat} {f : Nat × Nat} (h : W.heap[k]? = some (.cells c t f)) (hg : W.grownBy W' row)
    (hr : ∀ r, row = some r → ∃ o, W.heap[r]? = some o ∧ o.isCells = false) : W'.heap[k]? = some (.cells c t f) := by
  refine (hg.block k (Array.getElem?_eq_some_iff.1 h).1 (fun e => ?_)).trans h
  obtain ⟨o, ho, hc⟩ := hr k e.symm
  rw [h] at ho
  cases ho
  simp [Obj.isCells] at hc

/-- the world of Read where its loop begins -/
abbrev rd4 (w : World) (n : Nat) (v : Value) : World := (((w.alloc (.cells #[.int .i64 (n : Int)] 3)).alloc (.cells #[.slice none 0 0] 23)).alloc (.cells #[.int .i64 0] 29)).alloc (.cells #[v] 65)

theorem rd4_blocks (w : World) (n : Nat) (v : Value) : (rd4 w n v).heap.size = w.heap.size + 4 ∧ (rd4 w n v).heap[w.heap.size]? = some (.cells #[.int .i64 (n : Int)] 3 (0, 0)) ∧ (rd4 w n v).heap[w.heap.size + 1]? = some (.cells #[.slice none 0 0] 23 (0, 0)) ∧
    (rd4 w n v).heap[w.heap.size + 1 + 1]? = some (.cells #[.int .i64 0] 29 (0, 0)) ∧ (rd4 w n v).heap[w.heap.size + 1 + 1 + 1]? = some (.cells #[v] 65 (0, 0)) ∧ Below w.heap.size w (rd4 w n v) := by
  have s1 : (w.alloc (.cells #[.int .i64 (n : Int)] 3)).heap.size = w.heap.size + 1 := World.size_alloc _ _
  have s2 : ((w.alloc (.cells #[.int .i64 (n : Int)] 3)).alloc (.cells #[.slice none 0 0] 23)).heap.size = w.heap.size + 1 + 1 := by rw [World.size_alloc, s1]
  have s3 : (((w.alloc (.cells #[.int .i64 (n : Int)] 3)).alloc (.cells #[.slice none 0 0] 23)).alloc (.cells #[.int .i64 0] 29)).heap.size = w.heap.size + 1 + 1 + 1 := by rw [World.size_alloc, s2]
  have s4 : (rd4 w n v).heap.size = w.heap.size + 4 := by rw [World.size_alloc, s3]
  refine ⟨s4, ?_, ?_, ?_, ?_, ((((Below.refl _ _).alloc (Nat.le_refl _) _).alloc (by omega) _).alloc (by omega) _).alloc (by omega) _⟩
  · exact (heap_alloc_old _ _ _ (by omega)).trans ((heap_alloc_old _ _ _ (by omega)).trans ((heap_alloc_old _ _ _ (by omega)).trans (heap_alloc_new _ _)))
  · have := heap_alloc_new (w.alloc (.cells #[.int .i64 (n : Int)] 3)) (.cells #[.slice none 0 0] 23)
    rw [s1] at this
    exact (heap_alloc_old _ _ _ (by omega)).trans ((heap_alloc_old _ _ _ (by omega)).trans this)
  · have := heap_alloc_new ((w.alloc (.cells #[.int .i64 (n : Int)] 3)).alloc (.cells #[.slice none 0 0] 23)) (.cells #[.int .i64 0] 29)
    rw [s2] at this
    exact (heap_alloc_old _ _ _ (by omega)).trans this
  · have := heap_alloc_new (((w.alloc (.cells #[.int .i64 (n : Int)] 3)).alloc (.cells #[.slice none 0 0] 23)).alloc (.cells #[.int .i64 0] 29)) (.cells #[v] 65)
    rw [s3] at this
    exact this

theorem foldl_zip2 (t : Array Value) (p q : Nat) (u v : Value) : Array.foldl (fun t x => t.setIfInBounds x.fst x.snd) t (#[p, q].zip #[u, v]) = (t.setIfInBounds p u).setIfInBounds q v := by simp [Array.zip]

/-- what Read's loop has found -/
def Found (w : World) (n : Nat) (pre : List WR) (W : World) : Prop :=
  ∃ ini last v, pre = ini ++ [last] ∧ (∀ y ∈ ini, y.1.2.1 ≠ n) ∧ last.1.2.1 = n ∧ W.ownsRow w.heap.size 5 1 v 128 (bys last.1.2.2) ∧ v ≠ .slice none 0 0 ∧
    W.cell? ⟨w.heap.size + 1, 0, none⟩ = some v ∧ W.cell? ⟨w.heap.size + 1 + 1, 0, none⟩ = some (.int .i64 0) ∧ Below w.heap.size w W

theorem Found.own (w : World) (n B : Nat) (hB : w.heap.size ≤ B) (c : Code) : OwnFrom B (fun pre W => c = .ret ∧ Found w n pre W) := by
  rintro pre A C row ⟨hc, ini, last, v, h1, h2, h3, h4, h5, h6, h7, h8⟩ hg hr
  have hr' : ∀ r, row = some r → ∃ o, A.heap[r]? = some o ∧ o.isCells = false := fun r e => (hr r e).2
  exact ⟨hc, ini, last, v, h1, h2, h3, ownsRow_grown h4 hg hr', h5, cell_kept h6 hg hr', cell_kept h7 hg hr', h8.grown hg h8.size (fun k e => by have := (hr k e).1; omega)⟩

theorem found_end {w W w' : World} {n : Nat} {B g' c' : Nat} {pre : List WR} {x : WR} (hbel : Below W.heap.size W w') (hown : w'.ownsRow W.heap.size 5 1 (.slice (some ⟨g', 0, none⟩) 128 c') 128 (bys x.1.2.2))
    (m1 : Boxed w' (w.heap.size + 1) 23 (.slice none 0 0)) (m2 : Boxed w' (w.heap.size + 1 + 1) 29 (.int .i64 0)) (h4 : w.heap.size + 1 + 1 + 1 < W.heap.size) (hI : ∀ y ∈ pre, y.1.2.1 ≠ n) (hx : x.1.2.1 = n) (hB : Below w.heap.size w W) :
    KeepsFrom B W ((w'.setCell ⟨w.heap.size + 1, 0, none⟩ (.slice (some ⟨g', 0, none⟩) 128 c')).setCell ⟨w.heap.size + 1 + 1, 0, none⟩ (.int .i64 0)) ∧ Code.ret = Code.ret ∧
      Found w n (pre ++ [x]) ((w'.setCell ⟨w.heap.size + 1, 0, none⟩ (.slice (some ⟨g', 0, none⟩) 128 c')).setCell ⟨w.heap.size + 1 + 1, 0, none⟩ (.int .i64 0)) := by
  have hg := hown.lt g' rfl
  have n1 : Boxed (w'.setCell ⟨w.heap.size + 1, 0, none⟩ (.slice (some ⟨g', 0, none⟩) 128 c')) (w.heap.size + 1) 23 _ := m1.set _
  have n2 : Boxed (w'.setCell ⟨w.heap.size + 1, 0, none⟩ (.slice (some ⟨g', 0, none⟩) 128 c')) (w.heap.size + 1 + 1) 29 (.int .i64 0) := m2.other (by omega) _
  have o1 := n1.other (B' := w.heap.size + 1 + 1) (by omega) (.int .i64 0)
  have o2 := n2.set (.int .i64 0)
  have hk : KeepsFrom B W w' := ⟨hbel.size, fun k o _ hk _ => (hbel.block k (Array.getElem?_eq_some_iff.1 hk).1).trans hk⟩
  refine ⟨(hk.trans ((KeepsOthers.setCell _ _ _).from _)).trans ((KeepsOthers.setCell _ _ _).from _), rfl, pre, x, _, rfl, hI, hx, ?_, ?_, o1.cell, o2.cell, ?_⟩
  · exact own_base (own_fr hown ((((Fr.refl (fun k => k = w.heap.size + 1 ∨ k = w.heap.size + 1 + 1) w').setCell (p := ⟨w.heap.size + 1, 0, none⟩) (.inl (.inl rfl)) _).setCell (p := ⟨w.heap.size + 1 + 1, 0, none⟩) (.inl (.inr rfl)) _)) (fun k hk e => by simp [Value.ownBlock] at hk; subst hk; rcases e with e | e <;> omega)) (by omega)
  · simp
  · exact (((hB.trans (hbel.mono hB.size))).setCell (p := ⟨w.heap.size + 1, 0, none⟩) (by simp) _).setCell (p := ⟨w.heap.size + 1 + 1, 0, none⟩) (by simp; omega) _

theorem read_ret {w X : World} {v : Value} {bs : List UInt8} (D : Dv) (n : Nat) (t0 t1 t2 t3 : Value) (rest : List Value) (Dd : Nat) (hK : X.heap[Dd]? = some (.deferred (some []))) (hDd : w.heap.size ≤ Dd) (z1 : X.cell? ⟨w.heap.size + 1, 0, none⟩ = some v)
    (z2 : X.cell? ⟨w.heap.size + 1 + 1, 0, none⟩ = some (.int .i64 0)) (hown : X.ownsRow w.heap.size 5 1 v bs.length (bys bs)) (hbel : Below w.heap.size w X) (hne : v ≠ .slice none 0 0) (hr : D.read n = bs) (hv : ∃ a n c, v = .slice a n c) :
    bodyPostM Fence.wide 5 Try.prog Try.f16 (fun e w' => ∃ v, e = .returned (.tuple #[v, .int .i64 0]) ∧ NewB w w' v (D.read n)) .ret
      { tmps := (t0 :: t1 :: t2 :: t3 :: .pointer (some ⟨w.heap.size + 1, 0, none⟩) :: .pointer (some ⟨w.heap.size + 1 + 1, 0, none⟩) :: rest).toArray, defers := [{ target := .collected Dd, args := #[] }] } X := by
  have hg := grownBy_putObj' X Dd (.deferred none)
  have hrow : ∀ r, some Dd = some r → ∃ o, X.heap[r]? = some o ∧ o.isCells = false := fun r e => by cases e; exact ⟨_, hK, rfl⟩
  have y1 := cell_kept z1 hg hrow
  have y2 := cell_kept z2 hg hrow
  have ho := ownsRow_grown hown hg hrow
  have hb : Below w.heap.size w (X.putObj Dd (.deferred none)) := hbel.grown hg hbel.size (fun k e => by cases e; exact hDd)
  obtain ⟨a, m, c, rfl⟩ := hv
  refine ⟨by simp, .inl ⟨_, _, rfl, run_takeDeferred hK, ?_⟩⟩
  refine ⟨.tuple #[.slice a m c, .int .i64 0], ?_, _, rfl, ?_⟩
  · simp [results, Try.f16, go_sem, y1, y2]
  · rw [hr]; exact ⟨ho, hb, hne⟩

set_option maxRecDepth 100000 in
set_option maxHeartbeats 1000000 in
theorem read_any (p : Nat) (vs vc : Value) (D : Dv) (w : World) (h : DevAt w p vs vc D) (n : Nat) (hu : D.up n = 0) :
    Calls Try.prog 16 #[.pointer (some ⟨p, 0, none⟩), .int .i64 (n : Int)] w fun e w' => ∃ v, e = .returned (.tuple #[v, .int .i64 0]) ∧ NewB w w' v (D.read n) := by
  have h3 := h.fr (((Fr.alloc (S := fun _ => False) (Fr.refl _ w) (.cells #[.int .i64 (n : Int)] 3)).alloc (.cells #[.slice none 0 0] 23)).alloc (.cells #[.int .i64 0] 29)) (fun _ _ e => e)
  obtain ⟨ao, cap, hvc, hao1, hao2⟩ := h.cacheForm
  have h3b := h3.blk
  have c1 := (blk5 h3b).2.2.1
  have hp := h.foot_lt (.inl rfl)
  have hfull := h.full
  rw [hvc] at c1
  have HU := Lib.hid hu
  have H3 := Lib.hid h3
  have H := Lib.hid h
  have HV := Lib.hid hvc
  clear hu h3 h hvc h3b
  refine (callsIn_wide (n := 5)).1 ?_
  refine callsIn_of_wp_marks Try.func16 rfl trivial ?_ rfl
  simp only [Try.ntmps16, List.size_toArray, List.length_cons, List.length_nil, Nat.reduceAdd, Nat.reduceSub, Array.replicate_succ, Array.replicate_zero, List.push_toArray, List.append_toArray, List.nil_append, List.cons_append]
  gi_wp2_with (first | (refine ⟨trivial, ?_⟩; gi_at_call 44; refine (callsIn_wide.2 (up_any p vs vc D _ H3.out n)).mono ?_; rintro e w' ⟨rfl, rfl⟩; rw [HU.out]) | (refine ⟨trivial, ?_⟩; gi_at_call 49; refine (back_in Fence.wide _ trivial rfl _ _ _ _).mono ?_; rintro e w' ⟨rfl, rfl⟩))
  obtain ⟨hsz, b0, b1, b2, b3, hbel⟩ := rd4_blocks w n (.slice ao D.cache.length cap)
  unfold rd4 at hsz b0 b1 b2 b3 hbel
  have h4 := H.out.fr (Fr.of_below hbel (fun _ => False)) (fun _ _ e => e)
  have h4b := h4.blk
  clear H3 c1
  generalize hw4 : (((w.alloc (.cells #[.int .i64 (n : Int)] 3)).alloc (.cells #[.slice none 0 0] 23)).alloc (.cells #[.int .i64 0] 29)).alloc (.cells #[.slice ao D.cache.length cap] 65) = w4 at *
  clear hw4
  have hC : CacheIn (fun _ => False) w4.heap.size w4 ao D.cache := by
    intro k x hx
    have hk := (List.getElem?_eq_some_iff.1 hx).1
    cases ao with
    | none => have := hao1 rfl; omega
    | some a =>
      obtain ⟨g, rfl, hg⟩ := hao2 a rfl
      have := h4.cache
      rw [HV.out] at this
      exact ⟨g, rfl, by omega, by omega, fun e => e, own_seg this rfl (fun y hy => by simp [wcells, bys_length, (H.out.lenc y hy).1]) k x hx⟩
  have HB3 := Lib.hid b3
  have H4 := Lib.hid h4
  have H4B := Lib.hid h4b
  have HSZ := Lib.hid hsz
  have hszl : w.heap.size + 1 + 1 + 1 < w4.heap.size := by omega
  clear h4 h4b b3 hsz
  refine wpIn_rangeFunc_ownH rfl (by omega) (gf := 73) (lb := #[.pointer (some ⟨w.heap.size + 1 + 1 + 1, 0, none⟩)]) rfl trivial (enters_of Try.func73 (by kernel_rfl) rfl)
    (back_stops Fence.wide 4 trivial rfl (by omega) (w.heap.size + 1 + 1 + 1) w4.heap.size (fun _ => False) ao cap D.cache (fun x hx => (H.out.lenc x hx).1) hfull w4 (by omega) (by omega) (fun e => e) (by rw [cell_of_row _ _ 0 _ _ _ HB3.out]; rfl) hC)
    (fun h k => Kp.trans h k) (fun W l o o' hl _ _ _ => Kp.putObj W l o' hl) (Below.refl _ _) (fun _ => rfl)
    (fun pre W => (∀ y ∈ pre, y.1.2.1 ≠ n) ∧ Below w4.heap.size w4 W)
    (fun c pre W => c = .ret ∧ Found w n pre W)
    (OwnFrom.and (ownFrom_pure _ _) (ownFrom_below (Nat.le_refl _) (Nat.le_refl _)))
    (fun c => Found.own w n w4.heap.size (by omega) c)
    ⟨by simp, Below.refl _ _⟩
    (fun x a' W => ∃ Bx, w4.heap.size ≤ Bx ∧ W.heap[Bx]? = some (.cells (wcells x.1.2).toArray 85 (0, 0)) ∧ a' = { tmps := #[.pointer (some ⟨p, 0, none⟩), .int .i64 (n : Int), undef, .pointer (some ⟨w.heap.size, 0, none⟩), .pointer (some ⟨w.heap.size + 1, 0, none⟩), .pointer (some ⟨w.heap.size + 1 + 1, 0, none⟩), .int .i64 0, undef, .pointer (some ⟨Bx, 0, none⟩), .pointer (some ⟨p, 0, none⟩), .int .i64 (n : Int), .int .i64 0, .int .i64 0, .bool false, undef, .pointer (some ⟨p, 0, none⟩), .pointer (some ⟨p, 0, none⟩), .pointer (some ⟨p, 1, none⟩), .slice ao D.cache.length cap, .func (.func 73) #[] #[.pointer (some ⟨w.heap.size + 1 + 1 + 1, 0, none⟩)], .int .i64 (x.1.1 : Int), .agg (wcells x.1.2).toArray, undef, undef, undef, undef, undef, undef, undef, undef, undef, undef, undef, undef, undef, undef, undef], defers := [] })
    (fun x a' => by
      rintro s A C row ⟨Bx, h1, h2, h3⟩ hg hr
      exact ⟨Bx, h1, heap_grown h2 hg (fun r e => (hr r e).2), h3⟩)
    ?assign ?body ?done ?stop
  case assign =>
    rintro l pre x W K ⟨hI, hB⟩ hK
    obtain ⟨i0, hi, hz0, hz1, hz2⟩ := info_parts info85
    have HI := Lib.hid hi
    have HZ0 := Lib.hid hz0
    have HL : Hid (i0.size = (wcells x.1.2).length ∧ zw.cells.size = (wcells x.1.2).length) := ⟨by rw [hz1]; simp [wcells, bys_length, x.2], by rw [zw_size]; simp [wcells, bys_length, x.2]⟩
    have HK := Lib.hid hK
    have hBs := hB.size
    clear hi hz0 hz1 hz2 hK
    simp only [wenc, foldl_zip2, List.setIfInBounds_toArray, List.set_cons_zero, List.set_cons_succ]
    gi_wp2_with (((with_reducible refine wpListIn_newS 85 rfl rfl rfl 8 rfl _ rfl rfl ?_ (wcells x.1.2) ?_ i0 zw HI.out HZ0.out HL.out.1 HL.out.2 (one_wcells x.1.2) ?_); (next => simp); (next => rfl); simp only [Act.put, List.setIfInBounds_toArray, List.set_cons_zero, List.set_cons_succ]))
    exact HK.out _ _ ((KeepsOthers.alloc _ _).from _) ((Fr.refl _ _).alloc _) ⟨hI, hB.alloc hBs _⟩ ⟨W.heap.size, hBs, heap_alloc_new W _, rfl⟩
  case body =>
    rintro l pre x a' W hl hr ⟨hI, hB⟩ ⟨Bx, hBx, hbx, rfl⟩ hlt
    have hxl := x.2
    have hBs := hB.size
    have k0 : Boxed W w.heap.size 3 (.int .i64 (n : Int)) := (hB.block _ (by omega)).trans b0
    have k1 : Boxed W (w.heap.size + 1) 23 (.slice none 0 0) := (hB.block _ (by omega)).trans b1
    have k2 : Boxed W (w.heap.size + 1 + 1) 29 (.int .i64 0) := (hB.block _ (by omega)).trans b2
    have c0 := k0.cell
    have q0 : W.cell? ⟨Bx, 0, none⟩ = some (.int .i64 (x.1.2.1 : Int)) := by rw [cell_of_row _ _ 0 _ 85 (0, 0) hbx]; simp [wcells]
    have hBxl := (Array.getElem?_eq_some_iff.1 hbx).1
    by_cases hx : x.1.2.1 = n
    · have ht : ((x.1.2.1 : Int) == (n : Int)) = true := by simp [hx]
      have HS : Hid (Seg W ⟨Bx, 1, none⟩ (bys x.1.2.2)) := by
        intro j u hj
        rw [show (⟨Bx, 1, none⟩ : Addr).add j = ⟨Bx, 1 + j, none⟩ from by simp [Addr.add], cell_of_row _ _ _ _ 85 (0, 0) hbx]
        simpa [wcells, Nat.add_comm] using hj
      have HL := Lib.hid hxl
      have HR := Lib.hid hr
      have K12 := Lib.hid (And.intro k1 k2)
      have HC := Lib.hid hC
      have HBX := Lib.hid hbx
      have hbel0 := hbel
      have HX := Lib.hid hx
      clear hxl hr k0 k1 k2 hC hbx hbel
      gi_wp2_with (refine ⟨trivial, ?_⟩; gi_at_call 50; refine (CallsIn.inRound l (callsIn_wide.2 (clone_bytes ⟨Bx, 1, none⟩ 128 _ (bys x.1.2.2) W (by rw [bys_length, HL.out]) hBxl HS.out (one_bys _) (by omega)))).mono ?_; rintro e w' ⟨v, rfl, hown, hbel, hne⟩; obtain ⟨g', c', rfl, hgl⟩ := hown.form (by omega); have m1 : Boxed w' _ _ _ := (hbel.block _ (by omega)).trans K12.out.1; have m2 : Boxed w' _ _ _ := (hbel.block _ (by omega)).trans K12.out.2; have z1 := m1.cell; have z2 := m2.cell; have y1 := m1.frozen; have y2 := m2.frozen)
      exact found_end hbel hown m1 m2 (by omega) hI HX.out (hbel0.trans (hB.mono hbel0.size))
    · have ht : ((x.1.2.1 : Int) == (n : Int)) = false := beq_eq_false_iff_ne.2 (by omega)
      have HR := Lib.hid hr
      have HC := Lib.hid hC
      clear hr k1 k2 hC hbx k0
      gi_wp2
      exact ⟨KeepsFrom.refl _ _, Fr.refl _ _, by simp only [List.mem_append, List.mem_singleton]; rintro y (hy | rfl); exact hI y hy; exact hx, hB⟩
  case done =>
    rintro Dd ys W hDd hys ⟨hI, hB⟩ hK
    rename_i QQ KK hKK
    refine hKK _ _ (wpIn_wide.2 ?_)
    have hd := H4.out.fr (Fr.of_below hB (fun _ => False)) (fun _ _ e => e)
    obtain ⟨hpW, p0, -, -, -, -, -⟩ := blk5 hd.blk
    have hlt : n < D.safe.length := by have := (Dv.up_zero HU.out).2; omega
    obtain ⟨b, hb⟩ : ∃ b, D.safe[n]? = some b := ⟨D.safe[n], by simp⟩
    obtain ⟨g, cs, hvs, hg⟩ := hd.safeForm
    have HS := Lib.hid (hd.seg hvs hb)
    have HLB := Lib.hid (hd.lens b (List.mem_of_getElem? hb))
    rw [hvs] at p0
    have hBs := hB.size
    have k0 : Boxed W w.heap.size 3 (.int .i64 (n : Int)) := (hB.block _ (by omega)).trans b0
    have k1 : Boxed W (w.heap.size + 1) 23 (.slice none 0 0) := (hB.block _ (by omega)).trans b1
    have k2 : Boxed W (w.heap.size + 1 + 1) 29 (.int .i64 0) := (hB.block _ (by omega)).trans b2
    have c0 := k0.cell
    have hm := hd.most
    have K12 := Lib.hid (And.intro k1 k2)
    have HC := Lib.hid hC
    have HYS := Lib.hid hys
    have HI := Lib.hid hI
    have HSB := Lib.hid hb
    have HKD := Lib.hid hK
    have HBL := Lib.hid hbel
    have HBB := Lib.hid b0
    clear hd hvs k0 k1 k2 hC b0 b1 b2 hys hK hb hKK hI hbel
    have hdr : W.drew.heap.size = W.heap.size := rfl
    have hgd : g < W.drew.heap.size := hg
    have HSD : Hid (Seg W.drew ⟨g, n * 128, none⟩ (bys b)) := HS
    have K12d : Hid (Boxed W.drew (w.heap.size + 1) 23 (.slice none 0 0) ∧ Boxed W.drew (w.heap.size + 1 + 1) 29 (.int .i64 0)) := K12
    go_wp2
    refine wp_region_noPanic ?_
    go_region_with (go_at_call 50; refine (clone_bytes ⟨g, n * 128, none⟩ 128 _ (bys b) W.drew (by rw [bys_length, HLB.out]) hgd HSD.out (one_bys b) (by omega)).mono ?_; rintro e w' ⟨v, rfl, hown, hbel, hne⟩; obtain ⟨g', c', rfl, hgl⟩ := hown.form (by omega); have m1 : Boxed w' _ _ _ := (hbel.block _ (by omega)).trans K12d.out.1; have m2 : Boxed w' _ _ _ := (hbel.block _ (by omega)).trans K12d.out.2; have z1 := m1.cell; have z2 := m2.cell; have y1 := m1.frozen; have y2 := m2.frozen)
    all_goals
      refine NoPanic.normal ?_
      rename_i KK a1
      refine a1 _ _ ?_
      go_wp2
      have n1 := m1.set (.slice (some ⟨g', 0, none⟩) 128 c')
      have n2 := m2.other (B' := w.heap.size + 1) (by omega) (.slice (some ⟨g', 0, none⟩) 128 c')
      have o1 := n1.other (B' := w.heap.size + 1 + 1) (by omega) (.int .i64 0)
      have o2 := n2.set (.int .i64 0)
      have hDl := (Array.getElem?_eq_some_iff.1 HKD.out).1
      have hD2 := (hbel.block Dd hDl).trans HKD.out
      refine read_ret D n _ _ _ _ _ Dd (((KeepsOthers.setCell _ _ _).trans (KeepsOthers.setCell _ _ _)).same Dd _ hD2 rfl) (by omega) o1.cell o2.cell (bs := b) ?_ ?_ hne ?_ ⟨_, _, _, rfl⟩
      · rw [HLB.out]
        exact own_base (own_fr hown (((Fr.refl (fun k => k = w.heap.size + 1 ∨ k = w.heap.size + 1 + 1) w').setCell (p := ⟨w.heap.size + 1, 0, none⟩) (.inl (.inl rfl)) _).setCell (p := ⟨w.heap.size + 1 + 1, 0, none⟩) (.inl (.inr rfl)) _) (fun k hk e => by simp [Value.ownBlock] at hk; subst hk; rcases e with e | e <;> omega)) (by omega)
      · exact (((HBL.out.trans (hB.mono HBL.out.size)).trans ((Below.refl _ W).drew.trans (hbel.mono (Nat.le_refl _)) |>.mono (by omega))).setCell (p := ⟨w.heap.size + 1, 0, none⟩) (by simp) _).setCell (p := ⟨w.heap.size + 1 + 1, 0, none⟩) (by simp; omega) _
      · unfold Dv.read
        rw [← HYS.out, List.find?_eq_none.2 (by simp only [List.mem_map]; rintro x ⟨y, hy, rfl⟩; simp [HI.out y hy])]
        simp [HSB.out]
  case stop =>
    rintro Dd c pre W hDd hpre ⟨rfl, hF⟩ hK
    obtain ⟨ini, last, v, rfl, h1, h2, h3, h4, h5, h6, h7⟩ := hF
    gi_wp2
    obtain ⟨t, ht⟩ := hpre
    refine read_ret D n _ _ _ _ _ Dd hK (by omega) h5 h6 (bs := last.1.2.2) (by rw [last.2]; exact h3) h7 h4 ?_ ?_
    · unfold Dv.read
      rw [← ht, List.map_append, List.append_assoc, List.find?_append, List.find?_eq_none.2 (by simp only [List.mem_map]; rintro x ⟨y, hy, rfl⟩; simp [h1 y hy])]
      simp [h2]
    · obtain ⟨g', c', e, _⟩ := h3.form (by omega)
      exact ⟨_, _, _, e⟩
end Go.Proofs.Ytbmankbbkemkcaa
