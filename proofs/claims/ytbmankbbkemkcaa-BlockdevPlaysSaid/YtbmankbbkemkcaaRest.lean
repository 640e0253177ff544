/- Restart. -/
import Derived.Test.YtbmankbbkemkcaaCome
import Derived.Laws.CopyRow
namespace Go.Proofs.Ytbmankbbkemkcaa
open Go.RowKit Go.Shelf
attribute [local go_sem] Oper.semAt_some

def put2 (s : List (List UInt8)) (y : (Nat × List UInt8) × Nat) : List (List UInt8) := s.set y.1.1 (y.1.2.take y.2 ++ (s.getD y.1.1 []).drop y.2)
/-- what Restart leaves -/
def Dv.restarted (D : Dv) (c : Cr) : Dv := { D with safe := (c.comesFrom 0 D.cache).foldl put2 D.safe, cache := [], down := false, plan := 0 }

theorem put2_length (s : List (List UInt8)) (y : (Nat × List UInt8) × Nat) : (put2 s y).length = s.length := by simp [put2]
theorem fold2_length (l : List ((Nat × List UInt8) × Nat)) (s : List (List UInt8)) : (l.foldl put2 s).length = s.length := by
  induction l generalizing s with
  | nil => rfl
  | cons y l ih => rw [List.foldl_cons, ih, put2_length]
theorem put2_lens {s : List (List UInt8)} {y : (Nat × List UInt8) × Nat} (h : ∀ b ∈ s, b.length = 128) (h1 : y.1.2.length = 128) (h2 : y.2 ≤ 128) (h3 : y.1.1 < s.length) : ∀ b ∈ put2 s y, b.length = 128 := by
  intro b hb
  rcases List.mem_or_eq_of_mem_set hb with hb | rfl
  · exact h b hb
  · have := h (s.getD y.1.1 []) (by simp [h3])
    simp only [List.length_append, List.length_take, List.length_drop, this, h1]; omega

theorem fold2_lens {N : Nat} (pre : List (WM N)) (s : List (List UInt8)) (hN : s.length = N) (h : ∀ b ∈ s, b.length = 128) : ∀ b ∈ (pre.map (·.1)).foldl put2 s, b.length = 128 := by
  induction pre generalizing s with
  | nil => exact h
  | cons y l ih => exact ih _ (by rw [put2_length, hN]) (put2_lens h y.2.1 y.2.2.1 (by rw [hN]; exact y.2.2.2))

/-- some cells of a row's element, written anew -/
theorem own_splice {w : World} {base : Nat} {e : TypeId} {s n cap g : Nat} {α : Type} {f : α → List Value} {L : List α} (h : w.ownsRow base e s (.slice (some ⟨g, 0, none⟩) n cap) n (L.flatMap f)) (hn : L.length = n) (hl : ∀ x ∈ L, (f x).length = s)
    (k : Nat) (y x : α) (hy : L[k]? = some y) (xs : List Value) (hxs : xs.length ≤ s) (hx : f x = xs ++ (f y).drop xs.length) : ∃ cur, w.heap[g]? = some (.cells cur e (0, 0)) ∧ k * s + xs.length ≤ cur.size ∧
      (w.setRow g (cur.toList.take (k * s) ++ xs ++ cur.toList.drop (k * s + xs.length)).toArray).ownsRow base e s (.slice (some ⟨g, 0, none⟩) n cap) n ((L.set k x).flatMap f) := by
  have hfy := hl y (List.mem_of_getElem? hy)
  have hfx : (f x).length = s := by rw [hx, List.length_append, List.length_drop, hfy]; omega
  obtain ⟨cur, h1, h2, h3⟩ := own_set h hn hl k x (by have := (List.getElem?_eq_some_iff.1 hy).1; omega) hfx
  rw [hfx] at h2
  have hsg : Seg w ⟨g, k * s, none⟩ (f y) := own_seg h hn hl k y hy
  have hc : ∀ j, j < s → cur.toList[k * s + j]? = (f y)[j]? := by
    intro j hj
    have h4 : (f y)[j]? = some ((f y)[j]'(by omega)) := List.getElem?_eq_getElem (by omega)
    have h5 := hsg j _ h4
    rw [Addr.add_mid', cell_of_row _ _ _ _ _ _ h1] at h5
    rw [h4, ← h5]; simp
  refine ⟨cur, h1, by omega, ?_⟩
  have he : cur.toList.take (k * s) ++ xs ++ cur.toList.drop (k * s + xs.length) = cur.toList.take (k * s) ++ f x ++ cur.toList.drop (k * s + (f x).length) := by
    rw [hfx, hx, List.append_assoc, List.append_assoc, List.append_assoc]
    congr 2
    apply List.ext_getElem?
    intro j
    rw [List.getElem?_drop]
    rcases Nat.lt_or_ge j (s - xs.length) with hj | hj
    · rw [List.getElem?_append_left (by rw [List.length_drop, hfy]; exact hj), List.getElem?_drop, ← hc _ (by omega), Nat.add_assoc]
    · rw [List.getElem?_append_right (by rw [List.length_drop, hfy]; exact hj), List.getElem?_drop, List.length_drop, hfy]
      congr 1; omega
  rw [he]; exact h3

theorem Flow.Runs.copy {P : Program} {A : Act} {ops : Array Oper} {i : Nat} {w w' : World} {o : Oper} {v : Value} (ho : ops[i]? = some o) (t t' : TypeId) (s x : Operand) (hop : o.op = .call { callee := .builtin .copy, args := #[s, x], argTypes := #[t, t'] }) (hv : Flow.valOf A ops i = v) (h : (Builtin.copy_ #[t, t'] o.type #[A.eval s, A.eval x]).run P w = .ok v w') : Flow.Runs P A ops i w w' :=
  .val ho (by simp [execOp, hop, resolve, invoke, builtin, h, hv, Result.andThen])

/-- four blocks laid -/
abbrev al4 (w : World) (o1 o2 o3 o4 : Obj) : World := (((w.alloc o1).alloc o2).alloc o3).alloc o4
theorem al4_blocks (w : World) (o1 o2 o3 o4 : Obj) : (al4 w o1 o2 o3 o4).heap.size = w.heap.size + 4 ∧ (al4 w o1 o2 o3 o4).heap[w.heap.size]? = some o1 ∧ (al4 w o1 o2 o3 o4).heap[w.heap.size + 1]? = some o2 ∧
    (al4 w o1 o2 o3 o4).heap[w.heap.size + 1 + 1]? = some o3 ∧ (al4 w o1 o2 o3 o4).heap[w.heap.size + 1 + 1 + 1]? = some o4 ∧ Below w.heap.size w (al4 w o1 o2 o3 o4) := by
  have s1 : (w.alloc o1).heap.size = w.heap.size + 1 := World.size_alloc _ _
  have s2 : ((w.alloc o1).alloc o2).heap.size = w.heap.size + 1 + 1 := by rw [World.size_alloc, s1]
  have s3 : (((w.alloc o1).alloc o2).alloc o3).heap.size = w.heap.size + 1 + 1 + 1 := by rw [World.size_alloc, s2]
  have s4 : (al4 w o1 o2 o3 o4).heap.size = w.heap.size + 4 := by rw [World.size_alloc, s3]
  refine ⟨s4, ?_, ?_, ?_, ?_, ((((Below.refl _ _).alloc (Nat.le_refl _) _).alloc (by omega) _).alloc (by omega) _).alloc (by omega) _⟩
  · exact (heap_alloc_old _ _ _ (by omega)).trans ((heap_alloc_old _ _ _ (by omega)).trans ((heap_alloc_old _ _ _ (by omega)).trans (heap_alloc_new _ _)))
  · have := heap_alloc_new (w.alloc o1) o2
    rw [s1] at this
    exact (heap_alloc_old _ _ _ (by omega)).trans ((heap_alloc_old _ _ _ (by omega)).trans this)
  · have := heap_alloc_new ((w.alloc o1).alloc o2) o3
    rw [s2] at this
    exact (heap_alloc_old _ _ _ (by omega)).trans this
  · have := heap_alloc_new (((w.alloc o1).alloc o2).alloc o3) o4
    rw [s3] at this
    exact this

set_option maxRecDepth 100000 in
set_option maxHeartbeats 1000000 in
theorem restart_any (p : Nat) (vs vc : Value) (D : Dv) (w : World) (h : DevAt w p vs vc D) (hdn : D.down = true) (c : Cr) (ak : Option Addr) (capk : Nat) (hk : BytesV w (.slice ak c.keep.length capk) c.keep) (hlen : c.keep.length ≤ 64)
    (ht1 : -9223372036854775808 ≤ c.torn ∧ c.torn < 9223372036854775808) (ht2 : -9223372036854775808 ≤ c.at_ ∧ c.at_ < 9223372036854775808) (hks : c.keep ≠ [] → ∀ a, ak = some a → vs.ownBlock ≠ some a.block) :
    Calls Try.prog 19 #[.pointer (some ⟨p, 0, none⟩), .agg #[.slice ak c.keep.length capk, .int .i64 c.torn, .int .i64 c.at_]] w fun e w' => e = .returned (.int .i64 0) ∧ DevAt w' p vs (.slice none 0 0) (D.restarted c) ∧ Fr (Foot p vs vc) w w' := by
  obtain ⟨ao, cap, hvc, hao1, hao2⟩ := h.cacheForm
  obtain ⟨gs, caps, hvs, hgs⟩ := h.safeForm
  have h2 := h.fr (((Fr.alloc (S := fun _ => False) (Fr.refl _ w) (.cells #[.pointer (some ⟨p, 0, none⟩)] 28)).alloc (.cells #[.slice ak c.keep.length capk, .int .i64 c.torn, .int .i64 c.at_] 25))) (fun _ _ e => e)
  have h2b := h2.blk
  rw [hdn] at h2b
  have c3 := (blk5 h2b).2.2.2.2.1
  have hp := h.foot_lt (.inl rfl)
  have hfull := h.full
  have H2 := Lib.hid h2
  have H := Lib.hid h
  have HV := Lib.hid (And.intro hvs hvc)
  have HKS := Lib.hid hks
  have HK := Lib.hid hk
  clear h2 h hvc hvs h2b hks hk
  refine (callsIn_wide (n := 5)).1 ?_
  refine callsIn_of_wp_marks Try.func19 rfl trivial ?_ rfl
  simp only [Try.ntmps19, List.size_toArray, List.length_cons, List.length_nil, Nat.reduceAdd, Nat.reduceSub, Array.replicate_succ, Array.replicate_zero, List.push_toArray, List.append_toArray, List.nil_append, List.cons_append]
  gi_wp2_with (first | (refine ⟨trivial, ?_⟩; gi_at_call 51; refine (callsIn_wide.2 (none_any p vs vc D _ H2.out)).mono ?_; rintro e w' ⟨rfl, rfl⟩) | (refine ⟨trivial, ?_⟩; gi_at_call 54; refine (comes_in Fence.wide _ trivial rfl _ _ _ _ _ _ _).mono ?_; rintro e w' ⟨rfl, rfl⟩))
  obtain ⟨hsz, b0, b1, b2, b3, hbel⟩ := al4_blocks w (.cells #[.pointer (some ⟨p, 0, none⟩)] 28) (.cells #[.slice ak c.keep.length capk, .int .i64 c.torn, .int .i64 c.at_] 25) (.cells #[.pointer (some ⟨p, 0, none⟩)] 28) (.cells #[.slice ak c.keep.length capk, .int .i64 c.torn, .int .i64 c.at_] 25)
  unfold al4 at hsz b0 b1 b2 b3 hbel
  have h4 := H.out.fr (Fr.of_below hbel (fun _ => False)) (fun _ _ e => e)
  have h4b := h4.blk
  have hk4 : BytesV _ (.slice ak c.keep.length capk) c.keep := HK.out.fr (Fr.of_below hbel (fun _ => False)) (fun _ _ _ _ e => e)
  clear H2 c3
  generalize hw4 : (((w.alloc (.cells #[.pointer (some ⟨p, 0, none⟩)] 28)).alloc (.cells #[.slice ak c.keep.length capk, .int .i64 c.torn, .int .i64 c.at_] 25)).alloc (.cells #[.pointer (some ⟨p, 0, none⟩)] 28)).alloc (.cells #[.slice ak c.keep.length capk, .int .i64 c.torn, .int .i64 c.at_] 25) = w4 at *
  clear hw4
  obtain ⟨S, hS⟩ : ∃ S : Nat → Prop, S = fun k => vs.ownBlock = some k := ⟨_, rfl⟩
  have hSge : ∀ k, w.heap.size ≤ k → ¬ S k := fun k hk e => by rw [hS] at e; have := H.out.foot_lt (.inr (.inl e)); omega
  have hSp : ¬ S p := fun e => by rw [hS] at e; exact H.out.ne1 e
  have hC : CacheIn S w4.heap.size w4 ao D.cache := by
    intro k x hx
    have hk := (List.getElem?_eq_some_iff.1 hx).1
    cases ao with
    | none => have := hao1 rfl; omega
    | some a =>
      obtain ⟨g, rfl, hg⟩ := hao2 a rfl
      have := h4.cache
      rw [HV.out.2] at this
      exact ⟨g, rfl, by omega, by omega, fun e => H.out.ne3 (by rw [hS] at e; rw [e, HV.out.2]; rfl), own_seg this rfl (fun y hy => by simp [wcells, bys_length, (H.out.lenc y hy).1]) k x hx⟩
  have hown4 := h4.safe
  rw [HV.out.1] at hown4
  have hb4 := h4b
  rw [HV.out.2] at hb4
  have hak : c.keep ≠ [] → ∀ a, ak = some a → a.block < w4.heap.size := by
    intro hne a ha
    rcases HK.out with ⟨ad, cp, e, h1, _⟩ | ⟨e, _⟩
    · simp at e; rw [ha] at e; cases e.1; have := h1.resolve_left hne; omega
    · simp at e; rw [e.1] at ha; cases ha
  have hstops := comes_stops Fence.wide 4 trivial rfl (by omega) (w.heap.size + 1 + 1) (w.heap.size + 1 + 1 + 1) p w4.heap.size S vs ao cap D.cache _ _ _ c ak capk D.safe.length H.out.lenc hfull w4 (by omega) (by omega) ⟨hSge _ (by omega), hSge _ (by omega), hSp⟩ (by rw [cell_of_row _ _ 0 _ _ _ b2]; rfl) hb4 ⟨b3, hk4, hlen, ht1, ht2⟩
    (fun hne a ha => ⟨hak hne a ha, fun e => HKS.out hne a ha (by rw [hS] at e; exact e)⟩) hC
  have HB := Lib.hid (And.intro b0 hbel)
  have H4 := Lib.hid h4
  have HO4 := Lib.hid hown4
  have HS := Lib.hid hS
  have hszl : w.heap.size + 1 + 1 + 1 < w4.heap.size := by omega
  have hsz4 := hsz
  clear h4 h4b hb4 hk4 b0 b1 b2 b3 hown4 hsz hbel hC hS
  refine wpIn_rangeFunc_ownH rfl (by omega) (gf := 74) (lb := #[.pointer (some ⟨w.heap.size + 1 + 1, 0, none⟩), .pointer (some ⟨w.heap.size + 1 + 1 + 1, 0, none⟩)]) rfl trivial (enters_of Try.func74 (by kernel_rfl) rfl)
    hstops (fun h k => Kp.trans h k) (fun W l o o' hl _ _ _ => Kp.putObj W l o' hl) (Below.refl _ _) (fun _ => rfl)
    (fun pre W => Kp S w4.heap.size w4 W ∧ W.ownsRow 0 83 128 (.slice (some ⟨gs, 0, none⟩) D.safe.length caps) D.safe.length (((pre.map (·.1)).foldl put2 D.safe).flatMap bys))
    (fun _ _ _ => False)
    (OwnFrom.and (fun s X Y row hs hg hr => Fr.grown hs hg (fun k hk => .inl (.inr (hr k hk).1))) (fun s X Y row hs hg hr => ownsRow_grown hs hg (fun r e => (hr r e).2)))
    (fun _ _ _ _ _ hs _ _ => hs)
    ⟨Fr.refl _ _, by simpa using HO4.out⟩
    (fun x a' W => ∃ Bx, w4.heap.size ≤ Bx ∧ W.heap[Bx]? = some (.cells (wcells x.1.1).toArray 85 (0, 0)) ∧ a' = { tmps := #[.pointer (some ⟨p, 0, none⟩), .agg #[.slice ak c.keep.length capk, .int .i64 c.torn, .int .i64 c.at_], .pointer (some ⟨w.heap.size, 0, none⟩), .pointer (some ⟨w.heap.size + 1, 0, none⟩), .int .i64 0, .pointer (some ⟨Bx, 0, none⟩), .int .i64 (x.1.2 : Int), .bool false, .pointer (some ⟨p, 0, none⟩), .bool false, .bool false, .pointer (some ⟨p, 0, none⟩), .pointer (some ⟨p, 0, none⟩), .pointer (some ⟨p, 3, none⟩), .bool true, .bool false, .pointer (some ⟨p, 0, none⟩), .agg #[.slice ak c.keep.length capk, .int .i64 c.torn, .int .i64 c.at_], .func (.func 74) #[] #[.pointer (some ⟨w.heap.size + 1 + 1, 0, none⟩), .pointer (some ⟨w.heap.size + 1 + 1 + 1, 0, none⟩)], .agg (wcells x.1.1).toArray, .int .i64 (x.1.2 : Int), undef, undef, undef, undef, undef, undef, undef, undef, undef, undef, undef, undef, undef, undef, undef, undef, undef, undef, undef, undef, undef, undef], defers := [] })
    (fun x a' => by
      rintro s A C row ⟨Bx, h1, h2, h3⟩ hg hr
      exact ⟨Bx, h1, heap_grown h2 hg (fun r e => (hr r e).2), h3⟩)
    ?assign ?body ?done ?stop
  case assign =>
    rintro l pre x W K ⟨hI, hO⟩ hK
    obtain ⟨i0, hi, hz0, hz1, hz2⟩ := info_parts info85
    have HI := Lib.hid hi
    have HZ0 := Lib.hid hz0
    have HL : Hid (i0.size = (wcells x.1.1).length ∧ zw.cells.size = (wcells x.1.1).length) := ⟨by rw [hz1]; simp [wcells, bys_length, x.2], by rw [zw_size]; simp [wcells, bys_length, x.2]⟩
    have HK1 := Lib.hid hK
    have hBs := hI.size
    clear hi hz0 hz1 hz2 hK
    simp only [menc, foldl_zip2, List.setIfInBounds_toArray, List.set_cons_zero, List.set_cons_succ]
    gi_wp2_with (((with_reducible refine wpListIn_newS 85 rfl rfl rfl 5 rfl _ rfl rfl ?_ (wcells x.1.1) ?_ i0 zw HI.out HZ0.out HL.out.1 HL.out.2 (one_wcells x.1.1) ?_); (next => simp); (next => rfl); simp only [Act.put, List.setIfInBounds_toArray, List.set_cons_zero, List.set_cons_succ]))
    exact HK1.out _ _ ((KeepsOthers.alloc _ _).from _) ((Fr.refl _ _).alloc _) ⟨hI.trans ((Fr.refl _ _).alloc _), own_fr hO ((Fr.refl (fun _ => False) _).alloc _) (fun _ _ e => e)⟩ ⟨W.heap.size, hBs, heap_alloc_new W _, rfl⟩
  case body =>
    rintro l pre x a' W hl hr ⟨hI, hO⟩ ⟨Bx, hBx, hbx, rfl⟩ hlt
    obtain ⟨hxl, hxm, hxn⟩ := x.2
    have hxmi : (x.1.2 : Int) ≤ 128 := by omega
    have hBs := hI.size
    have e0 : W.cell? ⟨w.heap.size, 0, none⟩ = some (.pointer (some ⟨p, 0, none⟩)) := (hI.cell (ad := ⟨w.heap.size, 0, none⟩) (show w.heap.size < _ by omega) (show w.heap.size < _ by omega) (hSge w.heap.size (Nat.le_refl _))).trans (by rw [cell_of_row _ _ 0 _ _ _ HB.out.1]; rfl)
    have hbp := (hI.block p (by omega) (fun e => e.elim hSp (fun e => by omega))).trans H4.out.blk
    obtain ⟨hpW, p0, -⟩ := blk5 hbp
    rw [HV.out.1] at p0
    have q0 : W.cell? ⟨Bx, 0, none⟩ = some (.int .i64 (x.1.1.1 : Int)) := by rw [cell_of_row _ _ 0 _ 85 (0, 0) hbx]; simp [wcells]
    have hBxl := (Array.getElem?_eq_some_iff.1 hbx).1
    have hfl : ((pre.map (·.1)).foldl put2 D.safe).length = D.safe.length := fold2_length _ _
    have hfs := fold2_lens pre D.safe rfl H.out.lens
    have hO' : W.drew.ownsRow 0 83 128 (.slice (some ⟨gs, 0, none⟩) D.safe.length caps) D.safe.length (((pre.map (·.1)).foldl put2 D.safe).flatMap bys) := own_fr hO ((Fr.refl (fun _ => False) _).drew) (fun _ _ e => e)
    obtain ⟨old, hold⟩ : ∃ old, ((pre.map (·.1)).foldl put2 D.safe)[x.1.1.1]? = some old := ⟨_, List.getElem?_eq_getElem (by omega)⟩
    have holdl := hfs old (List.mem_of_getElem? hold)
    have hbl : (bys (x.1.1.2.take x.1.2)).length = x.1.2 := by rw [bys_length, List.length_take]; omega
    obtain ⟨cur, hcur, hfit, hown2⟩ := own_splice hO' hfl (fun y hy => by rw [bys_length]; exact hfs y hy) x.1.1.1 old (x.1.1.2.take x.1.2 ++ old.drop x.1.2) hold (bys (x.1.1.2.take x.1.2)) (by omega) (by rw [hbl]; simp [bys])
    have hsrc : Seg W.drew ⟨Bx, 1, none⟩ (bys (x.1.1.2.take x.1.2)) := by
      intro j u hj
      rw [Addr.add_mid']
      show W.cell? _ = _
      rw [cell_of_row _ _ _ _ 85 (0, 0) hbx]
      simp only [bys, List.map_take] at hj
      have hj2 := (List.getElem?_eq_some_iff.1 hj).1
      rw [List.getElem?_take] at hj
      split at hj
      · simpa [wcells, bys, Nat.add_comm 1 j] using hj
      · cases hj
    have hcp := run_copy_row (P := Try.prog) W.drew 23 23 3 5 gs (x.1.1.1 * 128) x.1.2 128 ⟨Bx, 1, none⟩ x.1.2 128 cur 83 (bys (x.1.1.2.take x.1.2)) Try.underlying23 (by kernel_rfl) hcur (by rw [hbl]; simp) hsrc hfit (one_bys _)
    rw [hbl] at hcp
    have HCP := Lib.hid hcp
    have HO2 := Lib.hid hown2
    have HI := Lib.hid hI
    have HOLD := Lib.hid hold
    have HSP := Lib.hid hSp
    clear hcp hown2 hI hO hO' hold hcur hfit hsrc hbx hr hbp hSp hSge hstops hak
    gi_wp2_with fail
    refine Flow.wpIn_region_flow [12] (fun _ => 0) (fun _ => 0) [0, 1, 2, 3, 4, 5, 6, 7, 8, 9, 10, 11, 12, 13, 14, 15, 16, 17, 18, 19, 20, 34, 35, 36, 37, 38, 39, 40, 41, 42] [(0, 0), (1, 0), (2, 0), (3, 0), (4, 0), (5, 0), (6, 0), (7, 0), (8, 0), (9, 0), (10, 0), (11, 0)]
      (fun cc => match cc with | 0 => W.drew | _ => W.drew.setRow gs (cur.toList.take (x.1.1.1 * 128) ++ bys (x.1.1.2.take x.1.2) ++ cur.toList.drop (x.1.1.1 * 128 + x.1.2)).toArray)
      { tmps := #[.pointer (some ⟨p, 0, none⟩), .agg #[.slice ak c.keep.length capk, .int .i64 c.torn, .int .i64 c.at_], .pointer (some ⟨w.heap.size, 0, none⟩), .pointer (some ⟨w.heap.size + 1, 0, none⟩), .int .i64 0, .pointer (some ⟨Bx, 0, none⟩), .int .i64 (x.1.2 : Int), .bool false, .pointer (some ⟨p, 0, none⟩), .bool false, .bool false, .pointer (some ⟨p, 0, none⟩), .pointer (some ⟨p, 0, none⟩), .pointer (some ⟨p, 3, none⟩), .bool true, .bool false, .pointer (some ⟨p, 0, none⟩), .agg #[.slice ak c.keep.length capk, .int .i64 c.torn, .int .i64 c.at_], .func (.func 74) #[] #[.pointer (some ⟨w.heap.size + 1 + 1, 0, none⟩), .pointer (some ⟨w.heap.size + 1 + 1 + 1, 0, none⟩)], .agg (wcells x.1.1).toArray, .int .i64 (x.1.2 : Int), .pointer (some ⟨p, 0, none⟩), .pointer (some ⟨p, 0, none⟩), .pointer (some ⟨p, 0, none⟩), .slice (some ⟨gs, 0, none⟩) D.safe.length caps, .pointer (some ⟨Bx, 0, none⟩), .int .i64 (x.1.1.1 : Int), .pointer (some ⟨gs, x.1.1.1 * 128, none⟩), .int .i64 (x.1.2 : Int), .slice (some ⟨gs, x.1.1.1 * 128, none⟩) x.1.2 128, .pointer (some ⟨Bx, 1, none⟩), .int .i64 (x.1.2 : Int), .slice (some ⟨Bx, 1, none⟩) x.1.2 128, .int .i64 (x.1.2 : Int), undef, undef, undef, undef, undef, undef, undef, undef, undef], defers := [] }
      (by kernel_rfl) (by kernel_rfl) rfl rfl rfl ?start ?read ?mem ?post
    case start => intro t ht; simp only [List.mem_cons, List.not_mem_nil, or_false] at ht; rcases ht with rfl | rfl | rfl | rfl | rfl | rfl | rfl | rfl | rfl | rfl | rfl | rfl | rfl | rfl | rfl | rfl | rfl | rfl | rfl | rfl | rfl | rfl | rfl | rfl | rfl | rfl | rfl | rfl | rfl | rfl <;> rfl
    case read =>
      repeat' (first | refine List.forall_mem_cons.2 ⟨?_, ?_⟩ | exact List.forall_mem_nil _)
      · exact Flow.Runs.load rfl _ _ rfl rfl (by go_simp <;> rfl)
      · refine Flow.Runs.val rfl ?_; simp only [Flow.valOf, Flow.dst]; go_simp <;> rfl
      · refine Flow.Runs.val rfl ?_; simp only [Flow.valOf, Flow.dst]; go_simp <;> rfl
      · exact Flow.Runs.load rfl _ _ rfl rfl (by go_simp <;> rfl)
      · refine Flow.Runs.val rfl ?_; simp only [Flow.valOf, Flow.dst]; go_simp <;> rfl
      · exact Flow.Runs.load rfl _ _ rfl rfl (by go_simp <;> rfl)
      · refine Flow.Runs.val rfl ?_; simp only [Flow.valOf, Flow.dst]; go_simp <;> rfl
      · refine Flow.Runs.val rfl ?_; simp only [Flow.valOf, Flow.dst]; go_simp <;> rfl
      · refine Flow.Runs.val rfl ?_; simp only [Flow.valOf, Flow.dst]; go_simp <;> rfl
      · refine Flow.Runs.val rfl ?_; simp only [Flow.valOf, Flow.dst]; go_simp <;> rfl
      · refine Flow.Runs.val rfl ?_; simp only [Flow.valOf, Flow.dst]; go_simp <;> rfl
      · refine Flow.Runs.val rfl ?_; simp only [Flow.valOf, Flow.dst]; go_simp <;> rfl
    case mem =>
      intro y hy
      match y, hy with
      | 0, _ => exact Flow.Runs.copy rfl _ _ _ _ rfl rfl HCP.out
      | y + 1, hy => exact absurd hy (by simp)
    case post =>
      have hgs4 : gs < w4.heap.size := by omega
      refine ⟨⟨by simp [World.setRow], fun k o hk h1 _ => ?_⟩, ?_, ?_⟩
      · exact ((Fr.setRow (S := fun j => j = gs) ((Fr.refl _ W).drew) (.inl rfl) _).block k (Array.getElem?_eq_some_iff.1 h1).1 (fun e => by omega)).trans h1
      · exact Fr.setRow ((Fr.refl _ _).drew) (.inl (.inl (by rw [HS.out, HV.out.1]; rfl))) _
      · refine ⟨HI.out.trans (Fr.setRow ((Fr.refl _ _).drew) (.inl (.inl (by rw [HS.out, HV.out.1]; rfl))) _), ?_⟩
        have hgd : ((pre.map (·.1)).foldl put2 D.safe).getD x.1.1.1 [] = old := by simp [List.getD, HOLD.out]
        rw [List.map_append, List.foldl_append]
        simp only [List.map_cons, List.map_nil, List.foldl_cons, List.foldl_nil, put2]
        have := HO2.out
        rw [hbl] at this
        rw [hgd]
        exact this
  case done =>
    rintro Dd ys W hDd hys ⟨hI, hO⟩ hK
    rename_i QQ KK hKK
    refine hKK _ _ (wpIn_wide.2 ?_)
    have hBs := hI.size
    have e0 : W.cell? ⟨w.heap.size, 0, none⟩ = some (.pointer (some ⟨p, 0, none⟩)) := (hI.cell (ad := ⟨w.heap.size, 0, none⟩) (show w.heap.size < _ by omega) (show w.heap.size < _ by omega) (hSge w.heap.size (Nat.le_refl _))).trans (by rw [cell_of_row _ _ 0 _ _ _ HB.out.1]; rfl)
    have hbp := (hI.block p (by omega) (fun e => e.elim hSp (fun e => by omega))).trans H4.out.blk
    obtain ⟨hpW, p0, p1, p2, p3, p4, f0, f1, f2, f3, f4⟩ := blk5 hbp
    have hnp : w.heap.size ≠ p := by omega
    have HI := Lib.hid hI
    have HO := Lib.hid hO
    have HYS := Lib.hid hys
    have HKD := Lib.hid hK
    have HBP := Lib.hid hbp
    have HSP := Lib.hid hSp
    clear hI hO hys hK hKK hbp hSp hSge hstops hak p0 p4
    go_wp2
    refine Flow.wp_region_flow [5, 8, 11] (fun i => if i = 6 ∨ i = 7 then 1 else if i = 9 ∨ i = 10 then 2 else 0) (fun i => if i = 1 ∨ i = 6 ∨ i = 7 then 1 else if i = 2 ∨ i = 9 ∨ i = 10 then 2 else 0) [0, 1, 2, 3, 4, 5, 6, 7, 8, 9, 10, 11, 12, 13, 14, 15, 16, 17, 18, 19, 20, 21, 22, 23, 24, 25, 26, 27, 28, 29, 30, 31, 32, 33] [(0, 0), (1, 0), (1, 1), (2, 0), (2, 1), (2, 2), (3, 0), (4, 0), (6, 1), (7, 1), (9, 2), (10, 2)]
      (fun cc => match cc with | 0 => W.drew | 1 => W.drew.setCell ⟨p, 1, none⟩ (.slice none 0 0) | 2 => (W.drew.setCell ⟨p, 1, none⟩ (.slice none 0 0)).setCell ⟨p, 3, none⟩ (.bool false) | _ => ((W.drew.setCell ⟨p, 1, none⟩ (.slice none 0 0)).setCell ⟨p, 3, none⟩ (.bool false)).setCell ⟨p, 2, none⟩ (.int .i64 0))
      { tmps := #[.pointer (some ⟨p, 0, none⟩), .agg #[.slice ak c.keep.length capk, .int .i64 c.torn, .int .i64 c.at_], .pointer (some ⟨w.heap.size, 0, none⟩), .pointer (some ⟨w.heap.size + 1, 0, none⟩), .int .i64 0, undef, undef, .bool false, .pointer (some ⟨p, 0, none⟩), .bool false, .bool false, .pointer (some ⟨p, 0, none⟩), .pointer (some ⟨p, 0, none⟩), .pointer (some ⟨p, 3, none⟩), .bool true, .bool false, .pointer (some ⟨p, 0, none⟩), .agg #[.slice ak c.keep.length capk, .int .i64 c.torn, .int .i64 c.at_], .func (.func 74) #[] #[.pointer (some ⟨w.heap.size + 1 + 1, 0, none⟩), .pointer (some ⟨w.heap.size + 1 + 1 + 1, 0, none⟩)], undef, undef, undef, undef, undef, undef, undef, undef, undef, undef, undef, undef, undef, undef, undef, .pointer (some ⟨p, 0, none⟩), .pointer (some ⟨p, 0, none⟩), .pointer (some ⟨p, 0, none⟩), .pointer (some ⟨p, 0, none⟩), .pointer (some ⟨p, 1, none⟩), .pointer (some ⟨p, 0, none⟩), .pointer (some ⟨p, 3, none⟩), .pointer (some ⟨p, 0, none⟩), .pointer (some ⟨p, 2, none⟩)], defers := [{ target := .collected Dd, args := #[] }] }
      (by kernel_rfl) (by kernel_rfl) rfl rfl rfl ?start ?read ?mem ?post
    case start => intro t ht; simp only [List.mem_cons, List.not_mem_nil, or_false] at ht; rcases ht with rfl | rfl | rfl | rfl | rfl | rfl | rfl | rfl | rfl | rfl | rfl | rfl | rfl | rfl | rfl | rfl | rfl | rfl | rfl | rfl | rfl | rfl | rfl | rfl | rfl | rfl | rfl | rfl | rfl | rfl | rfl | rfl | rfl | rfl <;> rfl
    case read =>
      repeat' (first | refine List.forall_mem_cons.2 ⟨?_, ?_⟩ | exact List.forall_mem_nil _)
      · exact Flow.Runs.load rfl _ _ rfl rfl (by go_simp <;> rfl)
      · exact Flow.Runs.load rfl _ _ rfl rfl (by go_simp <;> rfl)
      · exact Flow.Runs.load rfl _ _ rfl rfl (by go_simp <;> rfl)
      · exact Flow.Runs.load rfl _ _ rfl rfl (by go_simp <;> rfl)
      · exact Flow.Runs.load rfl _ _ rfl rfl (by go_simp <;> rfl)
      · exact Flow.Runs.load rfl _ _ rfl rfl (by go_simp <;> rfl)
      · refine Flow.Runs.val rfl ?_; simp only [Flow.valOf, Flow.dst]; go_simp <;> rfl
      · refine Flow.Runs.val rfl ?_; simp only [Flow.valOf, Flow.dst]; go_simp <;> rfl
      · refine Flow.Runs.val rfl ?_; simp only [Flow.valOf, Flow.dst]; go_simp <;> rfl
      · refine Flow.Runs.val rfl ?_; simp only [Flow.valOf, Flow.dst]; go_simp <;> rfl
      · refine Flow.Runs.val rfl ?_; simp only [Flow.valOf, Flow.dst]; go_simp <;> rfl
      · refine Flow.Runs.val rfl ?_; simp only [Flow.valOf, Flow.dst]; go_simp <;> rfl
    case mem =>
      intro y hy
      match y, hy with
      | 0, _ => exact Flow.Runs.store rfl rfl _ _ _ rfl (by go_simp <;> rfl)
      | 1, _ => exact Flow.Runs.store rfl rfl _ _ _ rfl (by go_simp <;> rfl)
      | 2, _ => exact Flow.Runs.store rfl rfl _ _ _ rfl (by go_simp <;> rfl)
      | y + 3, hy => exact absurd hy (by simp)
    case post =>
      rename_i KK a1
      refine a1 _ _ ?_
      show Code.wp _ _ _ _ (((W.drew.setCell ⟨p, 1, none⟩ (.slice none 0 0)).setCell ⟨p, 3, none⟩ (.bool false)).setCell ⟨p, 2, none⟩ (.int .i64 0))
      obtain ⟨X, hX⟩ : ∃ X, X = ((W.drew.setCell ⟨p, 1, none⟩ (.slice none 0 0)).setCell ⟨p, 3, none⟩ (.bool false)).setCell ⟨p, 2, none⟩ (.int .i64 0) := ⟨_, rfl⟩
      have hfX : Fr (fun k => k = p) W X := by
        rw [hX]
        exact Fr.setCell (S := fun k => k = p) (p := ⟨p, 2, none⟩) (Fr.setCell (p := ⟨p, 3, none⟩) (Fr.setCell (p := ⟨p, 1, none⟩) ((Fr.refl (fun k => k = p) W).drew) (.inl rfl) _) (.inl rfl) _) (.inl rfl) _
      have hbX : X.heap[p]? = some (.cells #[vs, .slice none 0 0, .int .i64 0, .bool false, .int .i64 (D.calls : Int)] 67 (0, 0)) := by
        rw [hX]
        exact blk_set (blk_set (blk_set (w := W.drew) HBP.out rfl) rfl) rfl
      rw [← hX]
      clear hX
      go_wp2
      have hDl := (Array.getElem?_eq_some_iff.1 HKD.out).1
      have hDp : Dd ≠ p := fun e => by rw [e, HBP.out] at HKD; have := HKD.out; simp at this
      have hDX : X.heap[Dd]? = some (.deferred (some [])) := (hfX.block Dd hDl hDp).trans HKD.out
      refine ⟨by simp, .inl ⟨_, _, rfl, run_takeDeferred hDX, ?_⟩⟩
      have hfX2 : Fr (fun k => k = p ∨ k = Dd) W (X.putObj Dd (.deferred none)) :=
        (hfX.mono fun k _ e => .inl e).trans ⟨rfl, rfl, rfl, by simp, fun k _ hn => World.putObj_heap_other (fun e => hn (.inl (.inr e)))⟩
      have hgn : ∀ k, (Value.slice (some ⟨gs, 0, none⟩) D.safe.length caps).ownBlock = some k → ¬ (k = p ∨ k = Dd) := by
        intro k hk
        simp [Value.ownBlock] at hk
        subst hk
        rintro (e | e)
        · exact H.out.ne1 (by rw [HV.out.1, ← e]; rfl)
        · omega
      have hO2 := own_fr HO.out hfX2 hgn
      have hsafe : (D.restarted c).safe = (ys.map (·.1)).foldl put2 D.safe := by rw [HYS.out]; rfl
      have hlen2 : (D.restarted c).safe.length = D.safe.length := fold2_length _ _
      refine ⟨_, results_tmp rfl _ _ _, rfl, ⟨?_, ?_, World.ownsRow_nil _ _ _ _, H.out.ne1, by simp [Value.ownBlock], by rw [HV.out.1]; simp [Value.ownBlock], ?_, by simp [Dv.restarted], ?_, ?_, by simp [Dv.restarted], by simp [Dv.restarted]⟩, ?_⟩
      · exact (World.putObj_heap_other (fun e => hDp e.symm)).trans hbX
      · rw [hlen2, hsafe, HV.out.1]; exact hO2
      · rw [hsafe]; exact fold2_lens ys D.safe rfl H.out.lens
      · rw [hlen2]; exact H.out.pos
      · rw [hlen2]; exact H.out.most
      · refine ((Fr.of_below HB.out.2 (Foot p vs vc)).trans (HI.out.mono fun k _ e => e.elim (fun e => .inl (.inr (.inl (by rw [HS.out] at e; exact e)))) (fun e => .inr (by omega)))).trans (hfX2.mono fun k _ e => e.elim (fun e => .inl (.inl e)) (fun e => .inr (by omega)))
  case stop =>
    rintro Dd cc pre W hDd hpre hF hK
    exact hF.elim
end Go.Proofs.Ytbmankbbkemkcaa
