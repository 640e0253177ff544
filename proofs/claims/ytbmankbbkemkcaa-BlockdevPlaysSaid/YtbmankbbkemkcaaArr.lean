/- Arrays and structs by value: loads, stores, composites, of whatever many cells. -/
import Derived.Test.YtbmankbbkemkcaaBase
import Derived.OwnWalkIn
import Derived.TacticsIn
namespace Go.Proofs.Ytbmankbbkemkcaa
open Go.RowKit

theorem Addr.add_mid' (b o j : Nat) : (⟨b, o, none⟩ : Addr).add j = ⟨b, o + j, none⟩ := by unfold Addr.add; split <;> simp_all

section
variable {P : Program}

def isAggD (d : TypeDesc) : Bool := match d with | .struct _ | .array _ _ => true | _ => false

theorem run_loadArr (w : World) (ty : TypeId) (ad : Addr) (xs : List Value) (d : TypeDesc) (hs : Seg w ad xs) (hu : P.underlying ty = some d) (hd : isAggD d = true)
    (hi : (P.info? ty).map (·.size) = some xs.length) : (loadVar ty ad).run P w = .ok (.agg xs.toArray) w := by
  have hl : (loadCells ad xs.length).run P w = .ok xs.toArray w := run_loadCells_list (P := P) w ad xs hs
  cases hq : P.info? ty with
  | none => simp [hq] at hi
  | some i =>
    have hs : i.size = xs.length := by simpa [hq] using hi
    have hagg : (isAgg ty).run P w = .ok true w := by
      unfold isAgg
      rw [Sem.run_bind, run_underlying hu w]
      cases d <;> simp_all [isAggD]
    simp [loadVar, Sem.run_bind, hagg, sizeOf, typeInfo, hq, hs, hl]

theorem run_loadAt_arr (w : World) (ty : TypeId) (ad : Addr) (xs : List Value) (d : TypeDesc) (hs : Seg w ad xs) (hu : P.underlying ty = some d) (hd : isAggD d = true)
    (hi : (P.info? ty).map (·.size) = some xs.length) : (Instr.loadAt ty (.pointer (some ad))).run P w = .ok (.agg xs.toArray) w := by
  simp only [Instr.loadAt, Instr.sureAddr, Sem.run_bind, Sem.run_pure, Result.andThen_ok, run_loadArr w ty ad xs d hs hu hd hi]

theorem run_storeAt_arr (w : World) (ty : TypeId) (g o : Nat) (xs : List Value) (cur : Array Value) (t : TypeId) (hg : w.heap[g]? = some (.cells cur t (0, 0))) (hl : o + xs.length ≤ cur.size)
    (h1 : ∀ v ∈ xs, v.oneCell' = true) (hi : (P.info? ty).map (·.size) = some xs.length) :
    (Instr.storeAt ty (.pointer (some ⟨g, o, none⟩)) (.agg xs.toArray)).run P w = .ok () (w.setRow g (cur.toList.take o ++ xs ++ cur.toList.drop (o + xs.length)).toArray) := by
  cases hq : P.info? ty with
  | none => simp [hq] at hi
  | some i =>
    have hs : i.size = xs.length := by simpa [hq] using hi
    have hst := run_storeCells_at P g o t xs 0 cur w hg (by simpa using hl) h1
    simp only [Nat.add_zero] at hst
    simp [Instr.storeAt, Instr.sureAddr, storeVar, Value.cells, sizeOf, typeInfo, hq, hs, hst]

theorem fold_set (vs : List Value) : ∀ (off k : Nat) (cs : Array Value), off + k + vs.length ≤ cs.size →
    ((vs.zipIdx k).foldl (fun (cs : Array Value) x => cs.setIfInBounds (off + x.2) x.1) cs) = (cs.toList.take (off + k) ++ vs ++ cs.toList.drop (off + k + vs.length)).toArray := by
  induction vs with
  | nil => intro off k cs _; simp
  | cons v rest ih =>
    intro off k cs h
    rw [List.zipIdx_cons, List.foldl_cons, ih off (k + 1) _ (by simp at h ⊢; omega)]
    have e := list_seg_step cs.toList (off + k) v rest (by simp at h ⊢; omega)
    congr 1
    simpa [Array.toList_setIfInBounds, Nat.add_assoc] using e

theorem fill_cons (place : Nat → Option (Nat × Nat)) (cells : Array Value) (i off : Nat) (v : Value) (rest : List (Nat × Value)) (hp : place i = some (off, v.cells.size)) (hl : off + v.cells.size ≤ cells.size) :
    Instr.fill place cells ((i, v) :: rest) = Instr.fill place (cells.toList.take off ++ v.cells.toList ++ cells.toList.drop (off + v.cells.size)).toArray rest := by
  have h := fold_set v.cells.toList off 0 cells (by simpa using hl)
  simp only [Nat.add_zero, Array.length_toList] at h
  rw [Instr.fill, hp]
  simp only [ne_eq, not_true_eq_false, gt_iff_lt, Nat.not_lt.2 hl, decide_false, Bool.or_self]
  rw [← h, ← Array.foldl_toList, Array.toList_zipIdx]
  simp

/-- a slice literal of one element of many cells -/
theorem run_buildSlice_one (w : World) (t e : TypeId) (i : TypeInfo) (z : Value) (ht : P.underlying t = some (.slice e)) (hi : P.info? e = some i) (hz : i.zero = some z) (xs : List Value) (hs : i.size = xs.length)
    (h0 : 0 < xs.length) (h1 : xs.length ≤ 16777216) :
    (Instr.buildSlice t 1 #[(0, .agg xs.toArray)]).run P w = .ok (.slice (some ⟨w.heap.size, 0, none⟩) 1 1) (w.alloc (.cells xs.toArray e)) := by
  have hn : ¬ (16777216 < xs.length) := by omega
  have hn0 : ¬ (xs.length = 0) := by omega
  have hfill : ∀ z : Array Value, z.size = xs.length → Instr.fill (fun i => some (i * xs.length, xs.length)) z [(0, .agg xs.toArray)] = some xs.toArray := by
    intro z hz
    rw [fill_cons _ _ _ 0 _ _ (by simp [Value.cells]) (by simp [Value.cells, hz])]
    have : z.toList.drop xs.length = [] := List.drop_eq_nil_of_le (by simp [hz])
    simp [Instr.fill, Value.cells, this]
  have hne : xs ≠ [] := by intro e; rw [e] at h0; simp at h0
  simp [Instr.buildSlice, run_underlying ht, sizeOf, typeInfo, hi, zeroValue, hz, hs, hn, hne, hfill, newRow]

/-- At a plain region's list: the load of a row. -/
theorem wpList_loadS {ops : Array Oper} {rest : List Oper} {o : Oper} {a : Act} {w : World} {Q : Exit → Act → World → Prop} (ty : TypeId) (hgd : o.guard = none) (x : Operand) (ho : o.op = .load ty x)
    (ad : Addr) (hx : a.eval x = .pointer (some ad)) (xs : List Value) (d : TypeDesc) (hs : Seg w ad xs) (hu : P.underlying ty = some d) (hd : isAggD d = true) (hi : (P.info? ty).map (·.size) = some xs.length)
    (h : wpList P ops Q rest (a.put o.dst (.agg xs.toArray)) w) : wpList P ops Q (o :: rest) a w :=
  wpList_plain hgd fun K hK => by
    unfold Oper.wp
    simp only [execOp, ho, hx, Sem.run_bind, run_loadAt_arr w ty ad xs d hs hu hd hi, Result.andThen_ok]
    exact hK _ _ h

/-- a row stored into a variable that has just been made -/
theorem run_newrow (w : World) (ty : TypeId) (xs : List Value) (z : Value) (i : TypeInfo) (hi : P.info? ty = some i) (hs : i.size = xs.length) (hzs : z.cells.size = xs.length) (h1 : ∀ v ∈ xs, v.oneCell' = true) :
    (Instr.storeAt ty (.pointer (some ⟨w.heap.size, 0, none⟩)) (.agg xs.toArray)).run P (w.alloc (.cells z.cells ty)) = .ok () (w.alloc (.cells xs.toArray ty)) := by
  have hst := run_storeAt_arr (P := P) (w.alloc (.cells z.cells ty)) ty w.heap.size 0 xs z.cells ty (heap_alloc_new w _) (by omega) h1 (by simp [hi, hs])
  have hdrop : z.cells.toList.drop (0 + xs.length) = [] := List.drop_eq_nil_of_le (by simp; omega)
  rw [hdrop] at hst
  simp only [List.take_zero, List.nil_append, List.append_nil] at hst
  have hrow : (w.alloc (.cells z.cells ty)).setRow w.heap.size xs.toArray = w.alloc (.cells xs.toArray ty) := by
    simp only [World.setRow, World.alloc]
    congr 1
    apply Array.ext_getElem?
    intro i
    rw [Array.getElem?_modify]
    by_cases h : w.heap.size = i
    · subst h; simp
    · have h' : ¬ i = w.heap.size := fun e => h e.symm
      simp [h, h', Array.getElem?_push]
  rw [hrow] at hst
  exact hst

/-- a new variable, and the store of a row into it: 'x := v' of a boxed variable -/
theorem wpList_newS {ops : Array Oper} {rest : List Oper} {o o2 : Oper} {a : Act} {w : World} {Q : Exit → Act → World → Prop} (ty : TypeId) (hgd : o.guard = none) (hgd2 : o2.guard = none) (ho : o.op = .alloc ty) (d : Tmp) (hd : o.dst = some d) (y : Operand) (ho2 : o2.op = .store ty (.tmp d) y) (hd2 : o2.dst = none)
    (hdl : d < a.tmps.size) (xs : List Value) (hy : (a.put (some d) (.pointer (some ⟨w.heap.size, 0, none⟩))).eval y = .agg xs.toArray) (i : TypeInfo) (z : Value) (hi : P.info? ty = some i) (hz : i.zero = some z) (hs : i.size = xs.length) (hzs : z.cells.size = xs.length) (h1 : ∀ v ∈ xs, v.oneCell' = true)
    (h : wpList P ops Q rest (a.put (some d) (.pointer (some ⟨w.heap.size, 0, none⟩))) (w.alloc (.cells xs.toArray ty))) : wpList P ops Q (o :: o2 :: rest) a w := by
  refine wpList_plain hgd fun K hK => ?_
  unfold Oper.wp
  have hal : (Instr.alloc ty true (.tuple #[])).run P w = .ok (.pointer (some ⟨w.heap.size, 0, none⟩)) (w.alloc (.cells z.cells ty)) := by
    simp [Instr.alloc, zeroValue, typeInfo, hi, hz, newVar, newRow]
  simp only [execOp, ho, Sem.run_bind, hal, Result.andThen_ok]
  refine hK _ _ ?_
  rw [hd]
  refine wpList_plain hgd2 fun K hK => ?_
  unfold Oper.wp
  have hx : (a.put (some d) (.pointer (some ⟨w.heap.size, 0, none⟩))).eval (.tmp d) = .pointer (some ⟨w.heap.size, 0, none⟩) := by simp [Act.eval, Act.put, hdl]
  have hst := run_storeAt_arr (P := P) (w.alloc (.cells z.cells ty)) ty w.heap.size 0 xs z.cells ty (heap_alloc_new w _) (by omega) h1 (by simp [hi, hs])
  have hdrop : z.cells.toList.drop (0 + xs.length) = [] := List.drop_eq_nil_of_le (by simp; omega)
  rw [hdrop] at hst
  simp only [List.take_zero, List.nil_append, List.append_nil] at hst
  have hrow : (w.alloc (.cells z.cells ty)).setRow w.heap.size xs.toArray = w.alloc (.cells xs.toArray ty) := by
    simp only [World.setRow, World.alloc]
    congr 1
    apply Array.ext_getElem?
    intro i
    rw [Array.getElem?_modify]
    by_cases h : w.heap.size = i
    · subst h; simp
    · have h' : ¬ i = w.heap.size := fun e => h e.symm
      simp [h, h', Array.getElem?_push]
  rw [hrow] at hst
  have hput : (a.put (some d) (.pointer (some ⟨w.heap.size, 0, none⟩))).put o2.dst undef = a.put (some d) (.pointer (some ⟨w.heap.size, 0, none⟩)) := by rw [hd2]; rfl
  simp only [execOp, ho2, hx, hy, Sem.run_bind, hst, Result.andThen_ok, Sem.run_pure, Oper.upon, hput]
  exact hK _ _ h

/-! ### the same inside a fence -/
theorem wpListIn_loadS {F : Fence} {n : Nat} {ops : Array Oper} {rest : List Oper} {o : Oper} {a : Act} {w : World} {Q : Exit → Act → World → Prop} (ty : TypeId) (hgd : o.guard = none) (x : Operand) (ho : o.op = .load ty x)
    (ad : Addr) (hx : a.eval x = .pointer (some ad)) (xs : List Value) (d : TypeDesc) (hs : Seg w ad xs) (hu : P.underlying ty = some d) (hd : isAggD d = true) (hi : (P.info? ty).map (·.size) = some xs.length)
    (h : wpListIn F n P ops Q rest (a.put o.dst (.agg xs.toArray)) w) : wpListIn F n P ops Q (o :: rest) a w :=
  wpListIn_plain hgd fun K hK => by
    unfold Oper.wpIn
    refine ⟨by simp [Oper.about, ho], ?_⟩
    rw [Oper.semAt_plain F _ _ (by rw [ho]; intro c hc; cases hc)]
    simp only [execOp, ho, hx, Sem.run_bind, run_loadAt_arr w ty ad xs d hs hu hd hi, Result.andThen_ok]
    exact hK _ _ h

theorem wpListIn_newS {F : Fence} {n : Nat} {ops : Array Oper} {rest : List Oper} {o o2 : Oper} {a : Act} {w : World} {Q : Exit → Act → World → Prop} (ty : TypeId) (hgd : o.guard = none) (hgd2 : o2.guard = none) (ho : o.op = .alloc ty) (d : Tmp) (hd : o.dst = some d) (y : Operand) (ho2 : o2.op = .store ty (.tmp d) y) (hd2 : o2.dst = none)
    (hdl : d < a.tmps.size) (xs : List Value) (hy : (a.put (some d) (.pointer (some ⟨w.heap.size, 0, none⟩))).eval y = .agg xs.toArray) (i : TypeInfo) (z : Value) (hi : P.info? ty = some i) (hz : i.zero = some z) (hs : i.size = xs.length) (hzs : z.cells.size = xs.length) (h1 : ∀ v ∈ xs, v.oneCell' = true)
    (h : wpListIn F n P ops Q rest (a.put (some d) (.pointer (some ⟨w.heap.size, 0, none⟩))) (w.alloc (.cells xs.toArray ty))) : wpListIn F n P ops Q (o :: o2 :: rest) a w := by
  refine wpListIn_plain hgd fun K hK => ?_
  unfold Oper.wpIn
  refine ⟨by simp [Oper.about, ho], ?_⟩
  rw [Oper.semAt_plain F _ _ (by rw [ho]; intro c hc; cases hc)]
  have hal : (Instr.alloc ty true (.tuple #[])).run P w = .ok (.pointer (some ⟨w.heap.size, 0, none⟩)) (w.alloc (.cells z.cells ty)) := by
    simp [Instr.alloc, zeroValue, typeInfo, hi, hz, newVar, newRow]
  simp only [execOp, ho, Sem.run_bind, hal, Result.andThen_ok]
  refine hK _ _ ?_
  rw [hd]
  refine wpListIn_plain hgd2 fun K hK => ?_
  unfold Oper.wpIn
  refine ⟨by simp [Oper.about, ho2], ?_⟩
  rw [Oper.semAt_plain F _ _ (by rw [ho2]; intro c hc; cases hc)]
  have hx : (a.put (some d) (.pointer (some ⟨w.heap.size, 0, none⟩))).eval (.tmp d) = .pointer (some ⟨w.heap.size, 0, none⟩) := by simp [Act.eval, Act.put, hdl]
  have hst := run_newrow (P := P) w ty xs z i hi hs hzs h1
  have hput : (a.put (some d) (.pointer (some ⟨w.heap.size, 0, none⟩))).put o2.dst undef = a.put (some d) (.pointer (some ⟨w.heap.size, 0, none⟩)) := by rw [hd2]; rfl
  simp only [execOp, ho2, hx, hy, Sem.run_bind, hst, Result.andThen_ok, Sem.run_pure, Oper.uponIn, hput]
  exact hK _ _ h
end

/-- a row's cells, element by element -/
theorem flat_get {α : Type} (f : α → List Value) (s : Nat) : ∀ (L : List α), (∀ x ∈ L, (f x).length = s) → ∀ (k : Nat) (x : α), L[k]? = some x → ∀ j u, (f x)[j]? = some u → (L.flatMap f)[k * s + j]? = some u
  | [], _, k, x, h, _, _, _ => by simp at h
  | y :: L, hl, 0, x, h, j, u, hj => by
    simp at h; subst h
    rw [List.flatMap_cons, Nat.zero_mul, Nat.zero_add, List.getElem?_append_left (List.getElem?_eq_some_iff.1 hj).1]
    exact hj
  | y :: L, hl, k + 1, x, h, j, u, hj => by
    have := flat_get f s L (fun z hz => hl z (by simp [hz])) k x (by simpa using h) j u hj
    have hy := hl y (by simp)
    rw [List.flatMap_cons, List.getElem?_append_right (by rw [hy, Nat.succ_mul]; omega)]
    rw [hy, show (k + 1) * s + j - s = k * s + j by rw [Nat.succ_mul]; omega]
    exact this

theorem flat_length {α : Type} (f : α → List Value) (s : Nat) : ∀ (L : List α), (∀ x ∈ L, (f x).length = s) → (L.flatMap f).length = L.length * s
  | [], _ => by simp
  | y :: L, hl => by
    rw [List.flatMap_cons, List.length_append, hl y (by simp), flat_length f s L (fun z hz => hl z (by simp [hz])), List.length_cons, Nat.succ_mul]; omega

/-- one element stored -/
theorem flat_set {α : Type} (f : α → List Value) (s : Nat) : ∀ (L : List α), (∀ x ∈ L, (f x).length = s) → ∀ (k : Nat) (x : α), k < L.length → (f x).length = s →
    (L.set k x).flatMap f = (L.flatMap f).take (k * s) ++ f x ++ (L.flatMap f).drop (k * s + s)
  | [], _, k, x, h, _ => by simp at h
  | y :: L, hl, 0, x, h, hx => by
    have hy := hl y (by simp)
    simp [hy]
  | y :: L, hl, k + 1, x, h, hx => by
    have hy := hl y (by simp)
    have ih := flat_set f s L (fun z hz => hl z (by simp [hz])) k x (by simpa using h) hx
    rw [List.set_cons_succ, List.flatMap_cons, ih, List.flatMap_cons]
    have e1 : (k + 1) * s = (f y).length + k * s := by rw [hy, Nat.succ_mul]; omega
    rw [e1, List.take_length_add_append, Nat.add_assoc, List.drop_length_add_append]
    simp [List.append_assoc]

/-- the element k of an owned row -/
theorem own_seg {w : World} {base : Nat} {e : TypeId} {s n cap g : Nat} {α : Type} {f : α → List Value} {L : List α} (h : w.ownsRow base e s (.slice (some ⟨g, 0, none⟩) n cap) n (L.flatMap f)) (hn : L.length = n) (hl : ∀ x ∈ L, (f x).length = s)
    (k : Nat) (x : α) (hk : L[k]? = some x) : Seg w ⟨g, k * s, none⟩ (f x) := by
  intro j u hj
  rw [Addr.add_mid', h.cellAt (k * s + j) ?_]
  · exact flat_get f s L hl k x hk j u hj
  · have h1 := (List.getElem?_eq_some_iff.1 hk).1
    have h2 := (List.getElem?_eq_some_iff.1 hj).1
    have h3 := hl x (List.mem_of_getElem? hk)
    have : (k + 1) * s ≤ n * s := Nat.mul_le_mul_right s (by omega)
    rw [Nat.succ_mul] at this
    omega

/-- an element of an owned row is stored anew -/
theorem own_set {w : World} {base : Nat} {e : TypeId} {s n cap g : Nat} {α : Type} {f : α → List Value} {L : List α} (h : w.ownsRow base e s (.slice (some ⟨g, 0, none⟩) n cap) n (L.flatMap f)) (hn : L.length = n) (hl : ∀ x ∈ L, (f x).length = s)
    (k : Nat) (x : α) (hk : k < n) (hx : (f x).length = s) : ∃ cur, w.heap[g]? = some (.cells cur e (0, 0)) ∧ k * s + (f x).length ≤ cur.size ∧
      (w.setRow g (cur.toList.take (k * s) ++ f x ++ cur.toList.drop (k * s + (f x).length)).toArray).ownsRow base e s (.slice (some ⟨g, 0, none⟩) n cap) n ((L.set k x).flatMap f) := by
  have hle : (k + 1) * s ≤ n * s := Nat.mul_le_mul_right s (by omega)
  rw [Nat.succ_mul] at hle
  rcases h.2 with ⟨h', _⟩ | ⟨g', cap', cur, h', hb, hg, hnc, hcm, hcs, htake⟩
  · simp at h'
  · simp only [Value.slice.injEq, Option.some.injEq, Addr.mk.injEq, and_true, true_and] at h'
    obtain ⟨rfl, rfl⟩ := h'
    have hcap : n * s ≤ cap * s := Nat.mul_le_mul_right s hnc
    refine ⟨cur, hg, by rw [hx]; omega, ⟨?_, .inr ⟨g, cap, _, rfl, hb, setRow_heap w g cur _ e _ hg, hnc, hcm, ?_, ?_⟩⟩⟩
    · rw [flat_length f s _ (fun y hy => by rcases List.mem_or_eq_of_mem_set hy with hy | rfl; exact hl y hy; exact hx), List.length_set, hn]
    · simp only [List.size_toArray, List.length_append, List.length_take, List.length_drop, Array.length_toList, hx]; omega
    · rw [flat_set f s L hl k x (by omega) hx, ← htake, hx]
      simp only [List.take_append, List.length_append, List.length_take, Array.length_toList, hx]
      rw [show min (k * s) cur.size = k * s by omega]
      rw [List.take_take, show min (n * s) (k * s) = k * s by omega, List.take_of_length_le (l := f x) (by omega), List.take_take, List.drop_take]
      rw [show min (k * s) (n * s) = k * s by omega]

end Go.Proofs.Ytbmankbbkemkcaa
