/- A region that draws its order, by its flow of data: each operation's value hangs on its operands and on how many of the writing operations (a chain) have come. No program in sight. -/
import Derived.WalkKit
import Derived.OrdersIn
import Derived.OwnWalkIn
import Derived.OrdersHeld
namespace Go.Proofs.Ytbmankbbkemkcaa.Flow
open Go.RowKit

variable {P : Program} {ops : Array Oper} {Q : Exit → Act → World → Prop}

/-- whatever order is picked: over any word for one operation -/
def anyOf (WP : Nat → (Act → World → Prop) → Act → World → Prop) (md : Region.Mode) (ops : Array Oper) (Q : Act → World → Prop) : Nat → Array Bool → Act → World → Prop
  | 0, listed, a, w => Region.ready md ops listed = [] ∧ Q a w
  | fuel + 1, listed, a, w =>
    (Region.ready md ops listed = [] → Q a w) ∧ ∀ i ∈ Region.ready md ops listed, WP i (anyOf WP md ops Q fuel (listed.setIfInBounds i true)) a w

theorem anyOf_wpAny (md : Region.Mode) : ∀ (fuel : Nat) (listed : Array Bool) (a : Act) (w : World), anyOf (wpOp P ops Q) md ops (Q .normal) fuel listed a w → wpAny P md ops Q fuel listed a w
  | 0, _, _, _, h => h
  | fuel + 1, _, _, _, h => ⟨h.1, fun i hi => wpOp_mono (fun a' w' => anyOf_wpAny md fuel _ a' w') (h.2 i hi)⟩
theorem anyOf_wpAnyIn {F : Fence} {n : Nat} (md : Region.Mode) : ∀ (fuel : Nat) (listed : Array Bool) (a : Act) (w : World), anyOf (wpOpIn F n P ops Q) md ops (Q .normal) fuel listed a w → wpAnyIn F n P md ops Q fuel listed a w
  | 0, _, _, _, h => h
  | fuel + 1, _, _, _, h => ⟨h.1, fun i hi => wpOpIn_mono (fun a' w' => anyOf_wpAnyIn md fuel _ a' w') (h.2 i hi)⟩

def dst (ops : Array Oper) (i : Nat) : Option Tmp := (ops[i]?).bind (·.dst)

/-- operation m waits for operation i, perhaps by way of others -/
def behind (ops : Array Oper) : Nat → Nat → Nat → Bool
  | 0, _, _ => false
  | f + 1, m, i => match ops[m]? with
    | some o => o.after.any fun e => Region.binds .any e && (e.on == i || behind ops f e.on i)
    | none => false

def Closed (ops : Array Oper) (listed : Array Bool) : Prop :=
  ∀ j o, ops[j]? = some o → listed.getD j false = true → ∀ e ∈ o.after, Region.binds .any e = true → listed.getD e.on false = true

theorem behind_listed {listed : Array Bool} (hc : Closed ops listed) : ∀ (f m i : Nat), listed.getD m false = true → behind ops f m i = true → listed.getD i false = true
  | 0, _, _, _, h => by simp [behind] at h
  | f + 1, m, i, hm, h => by
    unfold behind at h
    cases ho : ops[m]? with
    | none => simp [ho] at h
    | some o =>
      simp only [ho] at h
      obtain ⟨e, he, h2⟩ := Array.any_eq_true'.1 h
      simp only [Bool.and_eq_true, Bool.or_eq_true, beq_iff_eq] at h2
      have hl := hc m o ho hm e he h2.1
      rcases h2.2 with h3 | h3
      · rw [← h3]; exact hl
      · exact behind_listed hc f e.on i hl h3

/-- what is asked of the region's text -/
def opOk (ops : Array Oper) (o : Oper) : Bool :=
  o.guard.isNone && (match o.op with | .select _ _ => false | .defer _ => false | .call c => (match c.callee with | .builtin _ => true | _ => false) | _ => true) &&
  (o.op.operands.toList.all fun x => match x with
    | .tmp t => (List.range ops.size).all fun j => dst ops j != some t || o.after.any fun e => Region.binds .any e && e.on == j
    | _ => true)
def textOk (ops : Array Oper) (mem : List Nat) (dn up : Nat → Nat) (size : Nat) (free : List Nat) (reads : List (Nat × Nat)) : Bool :=
  (((List.range size).all fun t => free.contains t || !((List.range ops.size).all fun i => dst ops i != some t)) &&
  ((List.range ops.size).all fun i => mem.contains i || (List.range (mem.length + 1)).all fun c => !(decide (dn i ≤ c) && decide (c ≤ up i)) || reads.contains (i, c))) && (
  ((List.range ops.size).all fun i => match ops[i]? with | some o => opOk ops o && o.after.all fun e => !Region.binds .any e || decide (e.on < i) | none => true) &&
  ((List.range ops.size).all fun i => (List.range ops.size).all fun j => i == j || (dst ops i).isNone || dst ops i != dst ops j) &&
  ((List.range ops.size).all fun i => match dst ops i with | some d => decide (d < size) | none => true) &&
  (mem.all fun m => decide (m < ops.size)) &&
  ((List.range mem.length).all fun x => (List.range x).all fun y => behind ops ops.size (mem.getD x 0) (mem.getD y 0)) &&
  ((List.range ops.size).all fun i => mem.contains i ||
    ((dn i == 0 || behind ops ops.size i (mem.getD (dn i - 1) 0)) && decide (dn i ≤ mem.length) &&
     (up i == mem.length || (decide (up i < mem.length) && behind ops ops.size (mem.getD (up i) 0) i)))))

/-- the value that the final state gives operation i -/
def valOf (A : Act) (ops : Array Oper) (i : Nat) : Value := match dst ops i with | some d => A.tmps.getD d undef | none => undef

def Runs (P : Program) (A : Act) (ops : Array Oper) (i : Nat) (w w' : World) : Prop :=
  ∀ o, ops[i]? = some o → (execOp A.eval o).run P w = .ok (.value (valOf A ops i)) w' ∨ ((execOp A.eval o).run P w = .ok .skip w' ∧ valOf A ops i = undef)

theorem Runs.val {P : Program} {A : Act} {ops : Array Oper} {i : Nat} {w w' : World} {o : Oper} (ho : ops[i]? = some o) (h : (execOp A.eval o).run P w = .ok (.value (valOf A ops i)) w') : Runs P A ops i w w' := by
  intro o' ho'
  obtain rfl := Option.some.inj (ho.symm.trans ho')
  exact .inl h
theorem Runs.skip {P : Program} {A : Act} {ops : Array Oper} {i : Nat} {w w' : World} {o : Oper} (ho : ops[i]? = some o) (hd : o.dst = none) (h : (execOp A.eval o).run P w = .ok .skip w') : Runs P A ops i w w' := by
  intro o' ho'
  obtain rfl := Option.some.inj (ho.symm.trans ho')
  exact .inr ⟨h, by simp [valOf, dst, ho, hd]⟩

section
variable {P : Program} {A : Act} {ops : Array Oper} {i : Nat} {w w' : World} {o : Oper} {v : Value}
theorem Runs.load (ho : ops[i]? = some o) (t : TypeId) (x : Operand) (hop : o.op = .load t x) (hv : valOf A ops i = v) (h : (Instr.loadAt t (A.eval x)).run P w = .ok v w') : Runs P A ops i w w' :=
  .val ho (by simp [execOp, hop, h, hv, Result.andThen])
theorem Runs.array (ho : ops[i]? = some o) (t : TypeId) (x : Operand) (hop : o.op = .sliceToArrayPointer t x) (hv : valOf A ops i = v) (h : (Instr.arrayAt t (A.eval x)).run P w = .ok v w') : Runs P A ops i w w' :=
  .val ho (by simp [execOp, hop, h, hv, Result.andThen])
theorem Runs.build (ho : ops[i]? = some o) (t : TypeId) (parts : Array (Nat × Operand)) (hop : o.op = .build t parts) (hv : valOf A ops i = v) (parts' : Array (Nat × Value)) (hp : parts.map (fun (i, x) => (i, A.eval x)) = parts') (h : (Instr.build t parts').run P w = .ok v w') : Runs P A ops i w w' :=
  .val ho (by subst hp; simp [execOp, hop, h, hv, Result.andThen])
theorem Runs.buildSlice (ho : ops[i]? = some o) (t : TypeId) (n : Nat) (parts : Array (Nat × Operand)) (hop : o.op = .buildSlice t n parts) (hv : valOf A ops i = v) (parts' : Array (Nat × Value)) (hp : parts.map (fun (i, x) => (i, A.eval x)) = parts') (h : (Instr.buildSlice t n parts').run P w = .ok v w') : Runs P A ops i w w' :=
  .val ho (by subst hp; simp [execOp, hop, h, hv, Result.andThen])
theorem Runs.append (ho : ops[i]? = some o) (t : TypeId) (s x : Operand) (hop : o.op = .call { callee := .builtin .append, args := #[s, x], argTypes := #[t, t] }) (hv : valOf A ops i = v) (h : (Builtin.append_ #[t, t] o.type #[A.eval s, A.eval x]).run P w = .ok v w') : Runs P A ops i w w' :=
  .val ho (by simp [execOp, hop, resolve, invoke, builtin, h, hv, Result.andThen])
theorem Runs.store (ho : ops[i]? = some o) (hd : o.dst = none) (t : TypeId) (s x : Operand) (hop : o.op = .store t s x) (h : (Instr.storeAt t (A.eval s) (A.eval x)).run P w = .ok () w') : Runs P A ops i w w' :=
  .skip ho hd (by simp [execOp, hop, h, Result.andThen])
end

structure Inv (ops : Array Oper) (mem : List Nat) (W : Nat → World) (A : Act) (listed : Array Bool) (a : Act) (w : World) : Prop where
  size : listed.size = ops.size
  closed : Closed ops listed
  defers : a.defers = A.defers
  tsize : a.tmps.size = A.tmps.size
  cor : ∀ t : Nat, (∀ i, dst ops i = some t → listed.getD i false = true) → a.tmps.getD t undef = A.tmps.getD t undef
  world : ∃ c, c ≤ mem.length ∧ w = W c ∧ ∀ x, x < mem.length → (listed.getD (mem.getD x 0) false = true ↔ x < c)

theorem getD_set {l : Array Bool} {i j : Nat} (hi : i < l.size) : (l.setIfInBounds i true).getD j false = (decide (i = j) || l.getD j false) := by
  by_cases h : i = j
  · subst h; simp [hi]
  · simp [Array.getElem?_setIfInBounds_ne h, h]

theorem put_getD (a : Act) (d : Option Tmp) (v : Value) (t : Nat) (hd : ∀ x, d = some x → x < a.tmps.size) : (a.put d v).tmps.getD t undef = if d = some t then v else a.tmps.getD t undef := by
  cases d with
  | none => simp [Act.put]
  | some x =>
    have := hd x rfl
    by_cases h : x = t
    · subst h; simp [Act.put, this]
    · have h' : ¬ (some x = some t) := fun e => h (Option.some.inj e)
      simp [Act.put, Array.getElem?_setIfInBounds_ne h, h']

theorem put_size (a : Act) (d : Option Tmp) (v : Value) : (a.put d v).tmps.size = a.tmps.size := by cases d <;> simp [Act.put]
theorem put_defers' (a : Act) (d : Option Tmp) (v : Value) : (a.put d v).defers = a.defers := by cases d <;> simp [Act.put]

theorem getD_rep (m j : Nat) : (Array.replicate m false).getD j false = false := by
  rcases Nat.lt_or_ge j m with h | h <;> simp [h]

theorem least {p : Nat → Prop} (h : ∃ n, p n) : ∃ n, p n ∧ ∀ m, m < n → ¬ p m := by
  obtain ⟨n, hn⟩ := h
  induction n using Nat.strongRecOn with
  | _ n ih =>
    by_cases hm : ∃ m, m < n ∧ p m
    · obtain ⟨m, h1, h2⟩ := hm; exact ih m h1 h2
    · exact ⟨n, hn, fun m h1 h2 => hm ⟨m, h1, h2⟩⟩

theorem filter_lt {α : Type} (p q : α → Bool) : ∀ (l : List α), (∀ x, p x = true → q x = true) → ∀ x ∈ l, p x = false → q x = true → (l.filter p).length < (l.filter q).length
  | [], _, x, hx, _, _ => by cases hx
  | y :: l, h, x, hx, hp, hq => by
    have hle : (l.filter p).length ≤ (l.filter q).length := by
      clear hx
      induction l with
      | nil => simp
      | cons z l ih =>
        cases h1 : p z with
        | true => simp [h1, h z h1]; exact ih
        | false => cases h2 : q z <;> simp [h1, h2] <;> omega
    rcases List.mem_cons.1 hx with rfl | hx
    · simp [hp, hq]; omega
    · have ih := filter_lt p q l h x hx hp hq
      cases h1 : p y with
      | true => simp [h1, h y h1]; exact ih
      | false => cases h2 : q y <;> simp [h1, h2] <;> omega

/-- THE THEOREM -/
theorem flow_core {WP : Nat → (Act → World → Prop) → Act → World → Prop} {Qn : Act → World → Prop} {a : Act} {w : World}
    (hWm : ∀ i (K K' : Act → World → Prop) a w, (∀ a w, K a w → K' a w) → WP i K a w → WP i K' a w)
    (hWs : ∀ i o (K : Act → World → Prop) a w v w', ops[i]? = some o → opOk ops o = true → ((execOp a.eval o).run P w = .ok (.value v) w' ∨ ((execOp a.eval o).run P w = .ok .skip w' ∧ v = undef)) → K (a.put o.dst v) w' → WP i K a w)
    (mem : List Nat) (dn up : Nat → Nat) (free : List Nat) (reads : List (Nat × Nat)) (W : Nat → World) (A : Act)
    (ht : textOk ops mem dn up A.tmps.size free reads = true)
    (hw : W 0 = w.drew) (hdef : a.defers = A.defers) (hsz : a.tmps.size = A.tmps.size)
    (hstart' : ∀ t ∈ free, a.tmps.getD t undef = A.tmps.getD t undef)
    (hread' : ∀ x ∈ reads, Runs P A ops x.1 (W x.2) (W x.2))
    (hmem : ∀ x, x < mem.length → Runs P A ops (mem.getD x 0) (W x) (W (x + 1)))
    (hQ : Qn A (W mem.length)) : anyOf WP .any ops Qn ops.size (Array.replicate ops.size false) a { w with drawn := w.drawn + 1 } := by
  rw [textOk, Bool.and_eq_true, Bool.and_eq_true] at ht
  obtain ⟨⟨u1, u2⟩, ht⟩ := ht
  have hstart : ∀ t : Nat, t < A.tmps.size → ((List.range ops.size).all fun i => dst ops i != some t) = true → a.tmps.getD t undef = A.tmps.getD t undef := by
    intro t h1 h2
    have := List.all_eq_true.1 u1 t (List.mem_range.2 h1)
    rw [h2] at this
    exact hstart' t (by simpa using this)
  have hread : ∀ i, i < ops.size → mem.contains i = false → ∀ c, c ≤ mem.length → dn i ≤ c → c ≤ up i → Runs P A ops i (W c) (W c) := by
    intro i h1 h2 c hc h3 h4
    have := List.all_eq_true.1 u2 i (List.mem_range.2 h1)
    rw [h2, Bool.false_or] at this
    have := List.all_eq_true.1 this c (List.mem_range.2 (by omega))
    exact hread' (i, c) (by simpa [h3, h4] using this)
  simp only [Bool.and_eq_true, List.all_eq_true, List.mem_range, Bool.or_eq_true, beq_iff_eq, decide_eq_true_eq] at ht
  obtain ⟨⟨⟨⟨⟨t1, t2⟩, t3⟩, t4⟩, t5⟩, t6⟩ := ht
  have start : Inv ops mem W A (Array.replicate ops.size false) a { w with drawn := w.drawn + 1 } := by
    refine ⟨by simp, fun j o _ h => ?_, hdef, hsz, fun t h => ?_, 0, Nat.zero_le _, hw.symm, fun x hx => ?_⟩
    · rcases Nat.lt_or_ge j ops.size with h' | h' <;> simp [h'] at h
    · by_cases hlt : t < A.tmps.size
      · refine hstart t hlt (List.all_eq_true.2 fun i hi => ?_)
        rw [bne_iff_ne]
        intro e
        have := h i e
        have hi' := List.mem_range.1 hi
        simp [hi'] at this
      · have : ¬ t < a.tmps.size := by omega
        simp [Array.getElem?_eq_none (Nat.le_of_not_lt hlt), Array.getElem?_eq_none (Nat.le_of_not_lt this)]
    · have := t4 (mem.getD x 0) (by simp [List.getD, hx])
      have h0 : (Array.replicate ops.size false).getD (mem.getD x 0) false = false := getD_rep _ _
      rw [h0]
      simp
  -- the step
  have step : ∀ (listed : Array Bool) (a : Act) (w : World) (i : Nat), Inv ops mem W A listed a w → i ∈ Region.ready .any ops listed →
      WP i (Inv ops mem W A (listed.setIfInBounds i true)) a w := by
    intro listed a w i inv hr
    obtain ⟨hun, o, ho, hall⟩ := mem_ready.1 hr
    have hi : i < ops.size := (Array.getElem?_eq_some_iff.1 ho).1
    have hil : i < listed.size := by rw [inv.size]; exact hi
    have hun' : listed.getD i false = false := by simp [hil] at hun ⊢; exact hun
    have hok := t1 i hi
    simp only [ho, Bool.and_eq_true] at hok
    replace hok := hok.1
    have hok0 := hok
    simp only [opOk, Bool.and_eq_true, Option.isNone_iff_eq_none, List.all_eq_true] at hok
    obtain ⟨⟨hg, hsel⟩, hops⟩ := hok
    have hev : execOp a.eval o = execOp A.eval o := by
      refine execOp_congr o (fun cs b e => by rw [e] at hsel; simp at hsel) fun x hx => ?_
      have hxx := hops x (by simpa using hx)
      cases x with
      | tmp t =>
        show a.tmps.getD t undef = A.tmps.getD t undef
        refine inv.cor t fun j hj => ?_
        simp only [List.all_eq_true, List.mem_range, Bool.or_eq_true, bne_iff_ne] at hxx
        have hjs : j < ops.size := by
          rcases Nat.lt_or_ge j ops.size with h | h
          · exact h
          · simp [dst, Array.getElem?_eq_none h] at hj
        rcases hxx j hjs with h | h
        · exact absurd hj h
        · obtain ⟨e, he, h2⟩ := Array.any_eq_true'.1 h
          simp only [Bool.and_eq_true, beq_iff_eq] at h2
          rw [← h2.2]
          exact hall e he h2.1
      | const v => rfl
      | global g => rfl
      | func f => rfl
    have hdo : dst ops i = o.dst := by simp [dst, ho]
    have hdlt : ∀ x, o.dst = some x → x < a.tmps.size := by
      intro x hx
      have := t3 i hi
      rw [hdo, hx] at this
      rw [inv.tsize]
      simpa using this
    obtain ⟨c, hcm, rfl, hcx⟩ := inv.world
    have hclosed : Closed ops (listed.setIfInBounds i true) := by
      intro j oj hj hl e he hb
      rw [getD_set hil] at hl ⊢
      simp only [Bool.or_eq_true, decide_eq_true_eq] at hl ⊢
      rcases hl with rfl | hl
      · rw [ho] at hj
        have : o = oj := Option.some.inj hj
        subst this
        exact .inr (hall e he hb)
      · exact .inr (inv.closed j oj hj hl e he hb)
    -- what the operation does
    have fin : ∀ w', Runs P A ops i (W c) w' → (∃ c', c' ≤ mem.length ∧ w' = W c' ∧ ∀ x, x < mem.length → ((listed.setIfInBounds i true).getD (mem.getD x 0) false = true ↔ x < c')) →
        WP i (Inv ops mem W A (listed.setIfInBounds i true)) a (W c) := by
      intro w' hrun hworld
      have hinv : ∀ v, v = valOf A ops i → Inv ops mem W A (listed.setIfInBounds i true) (a.put o.dst v) w' := by
        intro v hv
        refine ⟨by simp [inv.size], hclosed, by rw [put_defers']; exact inv.defers, by rw [put_size]; exact inv.tsize, fun t h => ?_, hworld⟩
        rw [put_getD a o.dst v t hdlt]
        split
        · rename_i hd
          rw [hv, valOf, hdo, hd]
        · rename_i hd
          refine inv.cor t fun j hj => ?_
          have := h j hj
          rw [getD_set hil] at this
          simp only [Bool.or_eq_true, decide_eq_true_eq] at this
          rcases this with rfl | h2
          · exact absurd (hdo ▸ hj) hd
          · exact h2
      refine hWs i o _ a (W c) (valOf A ops i) w' ho hok0 ?_ (hinv _ rfl)
      rw [hev]
      rcases hrun o ho with h | ⟨h, hu⟩
      · exact .inl h
      · exact .inr ⟨h, hu⟩
    by_cases hmi : mem.contains i = true
    · -- a writing operation: the next of the chain
      have hmem' : i ∈ mem := by simpa using hmi
      obtain ⟨x, hx, hxi⟩ := List.mem_iff_getElem.1 hmem'
      have hxd : mem.getD x 0 = i := by simp [List.getD, hx, hxi]
      have hxc : ¬ x < c := fun h => by
        have := (hcx x hx).2 h
        rw [hxd, hun'] at this; cases this
      have hcx' : x ≤ c := by
        rcases Nat.lt_or_ge c x with h | h
        · exfalso
          have hb := t5 x hx c h
          rw [hxd] at hb
          -- all that it waits for is listed
          have : listed.getD (mem.getD c 0) false = true := by
            have key : ∀ f, behind ops f i (mem.getD c 0) = true → listed.getD (mem.getD c 0) false = true := by
              intro f hf
              cases f with
              | zero => simp [behind] at hf
              | succ f =>
                unfold behind at hf
                simp only [ho] at hf
                obtain ⟨e, he, h2⟩ := Array.any_eq_true'.1 hf
                simp only [Bool.and_eq_true, Bool.or_eq_true, beq_iff_eq] at h2
                have hl := hall e he h2.1
                rcases h2.2 with h3 | h3
                · rw [← h3]; exact hl
                · exact behind_listed inv.closed f e.on _ hl h3
            exact key _ hb
          have := (hcx c (by omega)).1 this
          omega
        · exact h
      have hxe : x = c := by omega
      subst hxe
      have hr := hmem x hx
      rw [hxd] at hr
      refine fin _ hr ⟨x + 1, by omega, rfl, fun y hy => ?_⟩
      rw [getD_set hil]
      simp only [Bool.or_eq_true, decide_eq_true_eq]
      constructor
      · rintro (h | h)
        · -- mem.getD y 0 = i: y = x by the chain
          rcases Nat.lt_trichotomy y x with h1 | h1 | h1
          · omega
          · omega
          · exfalso
            have hb := t5 y hy x h1
            rw [← h, hxd] at hb
            -- i waits for itself: it would be listed ahead of itself
            have key : ∀ f, behind ops f i i = true → listed.getD i false = true := by
              intro f hf
              cases f with
              | zero => simp [behind] at hf
              | succ f =>
                unfold behind at hf
                simp only [ho] at hf
                obtain ⟨e, he, h2⟩ := Array.any_eq_true'.1 hf
                simp only [Bool.and_eq_true, Bool.or_eq_true, beq_iff_eq] at h2
                have hl := hall e he h2.1
                rcases h2.2 with h3 | h3
                · rw [← h3]; exact hl
                · exact behind_listed inv.closed f e.on _ hl h3
            have := key _ hb
            rw [hun'] at this; cases this
        · have := (hcx y hy).1 h; omega
      · intro h
        by_cases he : y = x
        · subst he; exact .inl hxd.symm
        · exact .inr ((hcx y hy).2 (by omega))
    · have hmi' : mem.contains i = false := by simpa using hmi
      have h6 := t6 i hi
      rw [hmi'] at h6
      simp only [Bool.false_eq_true, false_or] at h6
      obtain ⟨⟨hlo, hlm⟩, hhi⟩ := h6
      have key : ∀ k f, behind ops f i k = true → listed.getD k false = true := by
        intro k f hf
        cases f with
        | zero => simp [behind] at hf
        | succ f =>
          unfold behind at hf
          simp only [ho] at hf
          obtain ⟨e, he, h2⟩ := Array.any_eq_true'.1 hf
          simp only [Bool.and_eq_true, Bool.or_eq_true, beq_iff_eq] at h2
          have hl := hall e he h2.1
          rcases h2.2 with h3 | h3
          · rw [← h3]; exact hl
          · exact behind_listed inv.closed f e.on _ hl h3
      have h1 : dn i ≤ c := by
        rcases hlo with h | h
        · omega
        · have := key _ _ h
          rcases Nat.eq_zero_or_pos (dn i) with h0 | h0
          · omega
          · have := (hcx (dn i - 1) (by omega)).1 this; omega
      have h2 : c ≤ up i := by
        rcases hhi with h | ⟨hl, h⟩
        · omega
        · rcases Nat.lt_or_ge (up i) c with h' | h'
          · exfalso
            have hl2 := (hcx (up i) hl).2 h'
            have := behind_listed inv.closed _ _ _ hl2 h
            rw [hun'] at this; cases this
          · exact h'
      refine fin _ (hread i hi hmi' c hcm h1 h2) ⟨c, hcm, rfl, fun x hx => ?_⟩
      rw [getD_set hil]
      simp only [Bool.or_eq_true, decide_eq_true_eq]
      constructor
      · rintro (h | h)
        · exfalso
          have : mem.getD x 0 ∈ mem := by simp [List.getD, hx]
          rw [← h] at this
          simp at hmi'
          exact hmi' this
        · exact (hcx x hx).1 h
      · exact fun h => .inr ((hcx x hx).2 h)
  -- the end
  have done : ∀ (listed : Array Bool) (a : Act) (w : World), Inv ops mem W A listed a w → (∀ i, i < ops.size → listed.getD i false = true) → Qn a w := by
    intro listed a w inv hall
    obtain ⟨c, hcm, rfl, hcx⟩ := inv.world
    have hc : c = mem.length := by
      rcases Nat.lt_or_ge c mem.length with h | h
      · exfalso
        have hm4 := t4 (mem.getD c 0) (by simp [List.getD, h])
        have := (hcx c h).1 (hall _ hm4)
        omega
      · omega
    have ha : a = A := by
      have hts : a.tmps = A.tmps := by
        refine Array.ext inv.tsize fun t h1 h2 => ?_
        have := inv.cor t fun i hi => by
          have his : i < ops.size := by
            rcases Nat.lt_or_ge i ops.size with h | h
            · exact h
            · simp [dst, Array.getElem?_eq_none h] at hi
          exact hall i his
        simpa [h1, h2] using this
      have hds := inv.defers
      cases a; cases A
      simp only at hts hds
      rw [hts, hds]
    rw [ha, hc]
    exact hQ
  -- the induction on how many are left
  have go : ∀ (n : Nat) (listed : Array Bool) (a : Act) (w : World), Inv ops mem W A listed a w → ((List.range ops.size).filter fun i => !listed.getD i false).length ≤ n → anyOf WP .any ops Qn n listed a w := by
    intro n
    induction n with
    | zero =>
      intro listed a w inv hn
      have hnil := List.eq_nil_of_length_eq_zero (Nat.le_zero.1 hn)
      have hall : ∀ i, i < ops.size → listed.getD i false = true := by
        intro i hi
        have := List.filter_eq_nil_iff.1 hnil i (List.mem_range.2 hi)
        simpa using this
      refine ⟨?_, done listed a w inv hall⟩
      rw [List.eq_nil_iff_forall_not_mem]
      intro i hr
      obtain ⟨hun, o, ho, _⟩ := mem_ready.1 hr
      have hi : i < ops.size := (Array.getElem?_eq_some_iff.1 ho).1
      have := hall i hi
      have hil : i < listed.size := by rw [inv.size]; exact hi
      simp [hil] at hun this
      rw [hun] at this; cases this
    | succ n ih =>
      intro listed a w inv hn
      refine ⟨fun hr => ?_, fun i hr => ?_⟩
      · -- none is ready: all are listed
        refine done listed a w inv ?_
        -- by strong induction on the index: edges lead to what is below, or nobody is left
        by_cases hall : ∀ i, i < ops.size → listed.getD i false = true
        · exact hall
        · exfalso
          have hex : ∃ i, i < ops.size ∧ listed.getD i false = false := by
            refine Classical.byContradiction fun hne => hall fun i hi => ?_
            cases hb : listed.getD i false with
            | true => rfl
            | false => exact absurd ⟨i, hi, hb⟩ hne
          obtain ⟨i, ⟨hi, hiu⟩, hmin⟩ := least hex
          cases ho : ops[i]? with
          | none => have := Array.getElem?_eq_none_iff.1 ho; omega
          | some o =>
            have hil : i < listed.size := by rw [inv.size]; exact hi
            have : i ∈ Region.ready .any ops listed := by
              refine mem_ready.2 ⟨by simp [hil] at hiu ⊢; exact hiu, o, ho, fun e he hb => ?_⟩
              have h1 := t1 i hi
              simp only [ho, Bool.and_eq_true] at h1
              have h2 := Array.all_eq_true_iff_forall_mem.1 h1.2 e he
              simp only [hb, Bool.not_true, Bool.false_or, decide_eq_true_eq] at h2
              cases hb2 : listed.getD e.on false with
              | true => rfl
              | false => exact absurd ⟨by omega, hb2⟩ (hmin e.on h2)
            rw [hr] at this; cases this
      · obtain ⟨hun, o, ho, _⟩ := mem_ready.1 hr
        have hi : i < ops.size := (Array.getElem?_eq_some_iff.1 ho).1
        have hil : i < listed.size := by rw [inv.size]; exact hi
        refine hWm i _ _ a w (fun a' w' h => ih _ a' w' h ?_) (step listed a w i inv hr)
        have hlt : ((List.range ops.size).filter fun j => !(listed.setIfInBounds i true).getD j false).length < ((List.range ops.size).filter fun j => !listed.getD j false).length := by
          refine filter_lt _ _ _ (fun j hj => ?_) i (List.mem_range.2 hi) ?_ ?_
          · rw [getD_set hil] at hj
            simp only [Bool.not_or, Bool.and_eq_true] at hj
            exact hj.2
          · rw [getD_set hil]; simp
          · simp [hil] at hun ⊢; exact hun
        omega
  refine go ops.size _ a _ start ?_
  refine Nat.le_trans (List.length_filter_le _ _) (by simp)

/-- a region that draws, outside every fence -/
theorem wp_region_flow {id : Nat} {a : Act} {w : World}
    (mem : List Nat) (dn up : Nat → Nat) (free : List Nat) (reads : List (Nat × Nat)) (W : Nat → World) (A : Act)
    (hm : P.follows .mixedOrders = true) (ht : textOk ops mem dn up A.tmps.size free reads = true)
    (hw : W 0 = w.drew) (hdef : a.defers = A.defers) (hsz : a.tmps.size = A.tmps.size)
    (hstart' : ∀ t ∈ free, a.tmps.getD t undef = A.tmps.getD t undef)
    (hread' : ∀ x ∈ reads, Runs P A ops x.1 (W x.2) (W x.2))
    (hmem : ∀ x, x < mem.length → Runs P A ops (mem.getD x 0) (W x) (W (x + 1)))
    (hQ : Q .normal A (W mem.length)) : (Code.region id ops true).wp P Q a w := by
  refine wp_region_any hm (anyOf_wpAny _ _ _ _ _ (flow_core (P := P) (fun i K K' a w h => wpOp_mono h) ?_ mem dn up free reads W A ht hw hdef hsz hstart' hread' hmem hQ))
  intro i o K a w v w' ho hok hrun hK
  simp only [opOk, Bool.and_eq_true, Option.isNone_iff_eq_none] at hok
  unfold wpOp
  simp only [ho, Region.wanted, hok.1.1, if_true]
  left
  unfold Oper.wp
  rcases hrun with h | ⟨h, rfl⟩
  · rw [h]; exact hK
  · rw [h]; exact hK

/-- and inside one -/
theorem wpIn_region_flow {F : Fence} {n : Nat} {id : Nat} {a : Act} {w : World}
    (mem : List Nat) (dn up : Nat → Nat) (free : List Nat) (reads : List (Nat × Nat)) (W : Nat → World) (A : Act)
    (hm : P.follows .mixedOrders = true) (ht : textOk ops mem dn up A.tmps.size free reads = true)
    (hw : W 0 = w.drew) (hdef : a.defers = A.defers) (hsz : a.tmps.size = A.tmps.size)
    (hstart' : ∀ t ∈ free, a.tmps.getD t undef = A.tmps.getD t undef)
    (hread' : ∀ x ∈ reads, Runs P A ops x.1 (W x.2) (W x.2))
    (hmem : ∀ x, x < mem.length → Runs P A ops (mem.getD x 0) (W x) (W (x + 1)))
    (hQ : Q .normal A (W mem.length)) : (Code.region id ops true).wpIn F n P Q a w := by
  refine wpIn_region_any hm (anyOf_wpAnyIn _ _ _ _ _ (flow_core (P := P) (fun i K K' a w h => wpOpIn_mono h) ?_ mem dn up free reads W A ht hw hdef hsz hstart' hread' hmem hQ))
  intro i o K a w v w' ho hok hrun hK
  simp only [opOk, Bool.and_eq_true, Option.isNone_iff_eq_none] at hok
  unfold wpOpIn
  simp only [ho, Region.wanted, hok.1.1, if_true]
  unfold Oper.wpIn
  have hop := hok.1.2
  refine ⟨fun f hf => ?_, ?_⟩
  · exfalso
    unfold Oper.about at hf
    cases hc : o.op with
    | call c =>
      rw [hc] at hop hf
      cases hcc : c.callee with
      | builtin b => simp [resolve, hcc, Target.leads] at hf
      | value f => simp [hcc] at hop
      | invoke r m => simp [hcc] at hop
    | _ => rw [hc] at hf; cases hf
  · rw [Oper.semAt_plain F _ _ (by intro c hc; rw [hc] at hop; cases hop)]
    rcases hrun with h | ⟨h, rfl⟩
    · rw [h]; exact hK
    · rw [h]; exact hK

end Go.Proofs.Ytbmankbbkemkcaa.Flow
