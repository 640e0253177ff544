/- comes: the writes that come. -/
import Derived.Test.YtbmankbbkemkcaaRead
import Derived.Scope
import Derived.WalkMore
namespace Go.Proofs.Ytbmankbbkemkcaa
open Go.RowKit Go.Shelf
attribute [local go_sem] Oper.semAt_some

section
variable {P : Program}
/-- a row laid anew, an assignment between -/
theorem wpListIn_newS3 {F : Fence} {n : Nat} {ops : Array Oper} {rest : List Oper} {o om o2 : Oper} {a : Act} {w : World} {Q : Exit → Act → World → Prop} (ty : TypeId) (hgd : o.guard = none) (hgdm : om.guard = none) (hgd2 : o2.guard = none) (ho : o.op = .alloc ty) (d : Tmp) (hd : o.dst = some d) (d' : Tmp) (xm : Operand) (hom : om.op = .assign xm) (hdm : om.dst = some d') (y : Operand) (ho2 : o2.op = .store ty (.tmp d) y) (hd2 : o2.dst = none)
    (a2 : Act) (ha2 : a2 = ((a.put (some d) (.pointer (some ⟨w.heap.size, 0, none⟩))).put (some d') ((a.put (some d) (.pointer (some ⟨w.heap.size, 0, none⟩))).eval xm))) (hx : a2.eval (.tmp d) = .pointer (some ⟨w.heap.size, 0, none⟩))
    (xs : List Value) (hy : a2.eval y = .agg xs.toArray) (i : TypeInfo) (z : Value) (hi : P.info? ty = some i) (hz : i.zero = some z) (hs : i.size = xs.length) (hzs : z.cells.size = xs.length) (h1 : ∀ v ∈ xs, v.oneCell' = true)
    (h : wpListIn F n P ops Q rest a2 (w.alloc (.cells xs.toArray ty))) : wpListIn F n P ops Q (o :: om :: o2 :: rest) a w := by
  refine wpListIn_plain hgd fun K hK => ?_
  unfold Oper.wpIn
  refine ⟨by simp [Oper.about, ho], ?_⟩
  rw [Oper.semAt_plain F _ _ (by rw [ho]; intro c hc; cases hc)]
  have hal : (Instr.alloc ty true (.tuple #[])).run P w = .ok (.pointer (some ⟨w.heap.size, 0, none⟩)) (w.alloc (.cells z.cells ty)) := by
    simp [Instr.alloc, zeroValue, typeInfo, hi, hz, newVar, newRow]
  simp only [execOp, ho, Sem.run_bind, hal, Result.andThen_ok]
  refine hK _ _ ?_
  rw [hd]
  refine wpListIn_plain hgdm fun K hK => ?_
  unfold Oper.wpIn
  refine ⟨by simp [Oper.about, hom], ?_⟩
  rw [Oper.semAt_plain F _ _ (by rw [hom]; intro c hc; cases hc)]
  simp only [execOp, hom, Sem.run_pure]
  refine hK _ _ ?_
  rw [hdm, ← ha2]
  refine wpListIn_plain hgd2 fun K hK => ?_
  unfold Oper.wpIn
  refine ⟨by simp [Oper.about, ho2], ?_⟩
  rw [Oper.semAt_plain F _ _ (by rw [ho2]; intro c hc; cases hc)]
  have hst := run_newrow (P := P) w ty xs z i hi hs hzs h1
  have hput : a2.put o2.dst undef = a2 := by rw [hd2]; rfl
  simp only [execOp, ho2, hx, hy, Sem.run_bind, hst, Result.andThen_ok, Sem.run_pure, Oper.uponIn, hput]
  exact hK _ _ h
end

section
variable {P : Program} {b : Frame} {a : Act} {k : List Item} {cs : List Frame} {w : World} {Q : Exit → Act → World → Prop} {F : Fence} {n : Nat}
theorem stepR_scope {c : Code} : step P (lone (b.atR a (.code (.scope c) :: k)) cs w) = .next (lone (b.atR a (.code c :: .inScope c :: k)) cs w) :=
  step_lone_go (by simp [stepG, stepG.exec, Frame.atR])
theorem stepR_inScope {c : Code} : step P (lone (b.atR a (.inScope c :: k)) cs w) = .next (lone (b.atR a k) cs w) :=
  step_lone_go (by simp [stepG, stepG.exec, Frame.atR])

/-- a scope in a fence, gone through with no goto -/
theorem wpIn_scope_straight {c : Code} (h : c.wpIn F n P (Exit.noGoto Q) a w) : (Code.scope c).wpIn F n P Q a w := by
  intro b k cs hro hb hr
  have h0 : (lone (b.atR a (.code (.scope c) :: k)) cs w).fenced P F := fenced_calm hb hr rfl
  obtain ⟨e, a₁, w₁, hq, harr⟩ := h b (.inScope c :: k) cs hro hb hr
  cases e with
  | normal => exact ⟨.normal, a₁, w₁, hq, .head h0 stepR_scope (StepsIn.trans harr (.one (fenced_calm hb hr rfl) stepR_inScope))⟩
  | exit id =>
    have hx : exitTo id (.inScope c :: k) = exitTo id k := by simp [exitTo]
    exact ⟨.exit id, a₁, w₁, hq, fun k' hk => .head h0 stepR_scope (harr.1 k' (by rw [hx]; exact hk)),
      fun hr' hk => let ⟨k₁, h1, h2⟩ := harr.2 hr' (by rw [hx]; exact hk); ⟨k₁, h1, .head h0 stepR_scope h2⟩⟩
  | goto l => exact hq.elim
  | ret => exact ⟨_, a₁, w₁, hq, .of_steps (.one h0 stepR_scope) harr⟩
  | panic ch => exact ⟨_, a₁, w₁, hq, .of_steps (.one h0 stepR_scope) harr⟩
  | outgrown => exact ⟨_, a₁, w₁, hq, .of_steps (.one h0 stepR_scope) harr⟩
end

/-- a crash -/
structure Cr where
  keep : List UInt8
  torn : Int
  at_ : Int

/-- is the write in the keep bits? -/
def Cr.bit (c : Cr) (k : Nat) : Bool := match c.keep[k / 8]? with
  | none => false
  | some b => !(bits .and .u8 ((b.toNat : Int) / 2 ^ (k % 8)) 1 == 0)
/-- how many bytes of the k-th write come -/
def Cr.many (c : Cr) (k : Nat) : Option Nat := if (k : Int) = c.torn then some (max 0 (min c.at_ 128)).toNat else if c.bit k then some 128 else none

/-- a write, and how many bytes of it come -/
abbrev WM (N : Nat) := { y : (Nat × List UInt8) × Nat // y.1.2.length = 128 ∧ y.2 ≤ 128 ∧ y.1.1 < N }
def menc {N : Nat} (y : WM N) : Array Value := #[.agg (wcells y.1.1).toArray, .int .i64 (y.1.2 : Int)]

def Cr.comesFrom (c : Cr) : Nat → List (Nat × List UInt8) → List ((Nat × List UInt8) × Nat)
  | _, [] => []
  | k, x :: L => (match c.many k with | none => [] | some m => [(x, m)]) ++ c.comesFrom (k + 1) L

theorem Cr.comes_snoc (c : Cr) : ∀ (L : List (Nat × List UInt8)) (k : Nat) (x : Nat × List UInt8), c.comesFrom k (L ++ [x]) = c.comesFrom k L ++ (match c.many (k + L.length) with | none => [] | some m => [(x, m)])
  | [], k, x => by simp [Cr.comesFrom]
  | y :: L, k, x => by
    rw [List.cons_append, Cr.comesFrom, Cr.comesFrom, Cr.comes_snoc c L (k + 1) x, List.append_assoc, List.length_cons, show k + 1 + L.length = k + (L.length + 1) by omega]

theorem Cr.many_le {c : Cr} {k m : Nat} (h : c.many k = some m) : m ≤ 128 := by
  unfold Cr.many at h
  split at h
  · cases h; omega
  · split at h
    · cases h; omega
    · cases h

/-- a crash in memory -/
structure CrAt (w : World) (B : Nat) (c : Cr) (ak : Option Addr) (capk : Nat) : Prop where
  blk : w.heap[B]? = some (.cells #[.slice ak c.keep.length capk, .int .i64 c.torn, .int .i64 c.at_] 25 (0, 0))
  row : BytesV w (.slice ak c.keep.length capk) c.keep
  len : c.keep.length ≤ 64
  t1 : -9223372036854775808 ≤ c.torn ∧ c.torn < 9223372036854775808
  t2 : -9223372036854775808 ≤ c.at_ ∧ c.at_ < 9223372036854775808

theorem comes_pre {c : Cr} {L : List (Nat × List UInt8)} {k m : Nat} {x : Nat × List UInt8} {N : Nat} {ys : List (WM N)} {z : WM N} (hx : L[k]? = some x) (hys : ys.map (·.1) = c.comesFrom 0 (L.take k)) (hm : c.many k = some m) (hz : z.1 = (x, m) := by rfl) :
    (ys ++ [z]).map (·.1) <+: c.comesFrom 0 L := by
  have hk := (List.getElem?_eq_some_iff.1 hx).1
  have h1 : L.take (k + 1) = L.take k ++ [x] := by rw [List.take_add_one, hx]; rfl
  have h2 : c.comesFrom 0 (L.take (k + 1)) = c.comesFrom 0 (L.take k) ++ [(x, m)] := by
    rw [h1, Cr.comes_snoc, List.length_take, Nat.min_eq_left (by omega), Nat.zero_add, hm]
  have h3 : ∀ (A B : List (Nat × List UInt8)) (i : Nat), c.comesFrom i A <+: c.comesFrom i (A ++ B) := by
    intro A
    induction A with
    | nil => intro B i; exact List.nil_prefix
    | cons a A ih => intro B i; simp only [List.cons_append, Cr.comesFrom]; exact (List.prefix_append_right_inj _).2 (ih B (i + 1))
  have h4 := h3 (L.take (k + 1)) (L.drop (k + 1)) 0
  rw [List.take_append_drop, h2] at h4
  rw [List.map_append, hys]
  simpa [hz] using h4

theorem cr_cells {w : World} {B : Nat} {a b c : Value} (h : w.heap[B]? = some (.cells #[a, b, c] 25 (0, 0))) : B < w.heap.size ∧ w.cell? ⟨B, 0, none⟩ = some a ∧ w.cell? ⟨B, 1, none⟩ = some b ∧ w.cell? ⟨B, 2, none⟩ = some c := by
  refine ⟨(Array.getElem?_eq_some_iff.1 h).1, ?_, ?_, ?_⟩ <;> (rw [cell_of_row w B _ _ _ _ h]; rfl)

set_option maxRecDepth 100000 in
set_option maxHeartbeats 1000000 in
theorem comes1_in (F : Fence) (n : Nat) (h74 : F.fn 74) (hro : F.round = none) (hn : 1 ≤ n) (l B1 B2 p n₀ : Nat) (S : Nat → Prop) (vs : Value) (ao : Option Addr) (cap : Nat) (L : List (Nat × List UInt8)) (pl dn cl : Value) (c : Cr) (ak : Option Addr) (capk : Nat) (N : Nat) (hL : ∀ x ∈ L, x.2.length = 128 ∧ x.1 < N) (hfull : L.length ≤ 256)
    (J Jx : List (WM N) → World → Prop)
    (hY : ∀ pre x W, J pre W → pre.length < L.length → YieldAt F (n - 1) Try.prog l (menc x) W fun e W' =>
      (e = .returned (.bool true) ∧ J (pre ++ [x]) W' ∧ Kp S n₀ W W') ∨ (e = .returned (.bool false) ∧ Jx (pre ++ [x]) W'))
    (hJ : ∀ pre W o, J pre W → J pre (W.alloc o))
    (W : World) (hlt : B1 < W.heap.size ∧ B2 < W.heap.size ∧ p < W.heap.size) (hBn : B1 < n₀ ∧ B2 < n₀ ∧ p < n₀) (hBS : ¬ S B1 ∧ ¬ S B2 ∧ ¬ S p) (hB1 : W.cell? ⟨B1, 0, none⟩ = some (.pointer (some ⟨p, 0, none⟩))) (hp : W.heap[p]? = some (.cells #[vs, .slice ao L.length cap, pl, dn, cl] 67 (0, 0))) (hc : CrAt W B2 c ak capk)
    (hKS : c.keep ≠ [] → ∀ a, ak = some a → a.block < n₀ ∧ ¬ S a.block) (hC : CacheIn S n₀ W ao L) (h0 : J [] W) :
    CallsIn F n Try.prog 74 #[.func (.yield l) #[] #[], .pointer (some ⟨B1, 0, none⟩), .pointer (some ⟨B2, 0, none⟩)] W fun e W' => (∃ v, e = .returned v) ∧
      ((∃ ys, ys.map (·.1) = c.comesFrom 0 L ∧ J ys W') ∨ (∃ pre : List (WM N), pre.map (·.1) <+: c.comesFrom 0 L ∧ Jx pre W')) := by
  refine callsIn_of_wp Try.func74 rfl h74 ?_ hro
  simp only [Try.ntmps74, List.size_toArray, List.length_cons, List.length_nil, Nat.reduceAdd, Nat.reduceSub, Array.replicate_succ, Array.replicate_zero, List.push_toArray, List.append_toArray, List.nil_append, List.cons_append]
  obtain ⟨-, -, p1, -, -, -, -⟩ := blk5 hp
  refine wpIn_scope_straight ?_
  refine wpIn_seq (wpIn_label ?_)
  show Code.wpIn _ _ _ _ _ _ _
  gi_wp2
  obtain ⟨i0, hi, hz0, hz1, hz2⟩ := info_parts info85
  have HI := Lib.hid hi
  have HZ0 := Lib.hid hz0
  have HL1 : Hid (∀ x ∈ L, i0.size = (wcells x).length ∧ zw.cells.size = (wcells x).length) := fun x hx => ⟨by rw [hz1]; simp [wcells, bys_length, (hL x hx).1], by rw [zw_size]; simp [wcells, bys_length, (hL x hx).1]⟩
  clear hi hz0 hz1 hz2
  gi_loopw [12] (fun i wr => ∃ (k : Nat) (ys : List (WM N)), k ≤ L.length ∧ ys.length ≤ k ∧ i = .int .i64 (k : Int) ∧ ys.map (·.1) = c.comesFrom 0 (L.take k) ∧ J ys wr ∧ Kp S n₀ W wr) (fun i _ => (L.length - intOf i).toNat)
  case atStart => exact ⟨0, [], Nat.zero_le _, Nat.le_refl _, rfl, by simp [Cr.comesFrom], h0, Fr.refl _ _⟩
  case round =>
    obtain ⟨k, ys, hk, hyl, rfl, hys, hJs, hkp⟩ := hrel
    have b1 := (hkp.cell (ad := ⟨B1, 0, none⟩) hlt.1 hBn.1 hBS.1).trans hB1
    have hc2 : wr.heap[B2]? = _ := (hkp.block B2 hlt.2.1 (fun e => e.elim hBS.2.1 (fun e => by omega))).trans hc.blk
    have hk2 := cr_cells hc2
    obtain ⟨hB2l, q0, q1, q2⟩ := hk2
    rcases Nat.lt_or_ge k L.length with hkl | hkl
    · obtain ⟨x, hx⟩ : ∃ x, L[k]? = some x := ⟨L[k], by simp [hkl]⟩
      have hxl := (hL x (List.mem_of_getElem? hx)).1
      have hxN := (hL x (List.mem_of_getElem? hx)).2
      have HLx := Lib.hid (HL1.out x (List.mem_of_getElem? hx))
      obtain ⟨g, rfl, hg1, hg2, hg3, hseg⟩ := hC k x hx
      have HS := Lib.hid (hkp.seg hseg hg2 hg1 hg3)
      have HS2 : Hid (Seg (wr.alloc (.cells (wcells x).toArray 85)) ⟨wr.heap.size, 0, none⟩ (wcells x)) := by
        intro j u hj
        rw [show (⟨wr.heap.size, 0, none⟩ : Addr).add j = ⟨wr.heap.size, j, none⟩ from by simp [Addr.add]; exact fun h => h.symm, cell_of_row _ _ _ _ 85 (0, 0) (heap_alloc_new wr _)]
        simpa using hj
      have HW : Hid (Option.map (fun x => x.size) (Try.prog.info? 85) = some (wcells x).length) := by show _ = _; rw [size85]; simp [wcells, bys_length, hxl]
      have htk : L.take (k + 1) = L.take k ++ [x] := by rw [List.take_add_one, hx]; rfl
      have hsn : c.comesFrom 0 (L.take (k + 1)) = c.comesFrom 0 (L.take k) ++ (match c.many k with | none => [] | some m => [(x, m)]) := by
        rw [htk, Cr.comes_snoc, List.length_take, Nat.min_eq_left hk, Nat.zero_add]
      have HSN := Lib.hid hsn
      have HJ := Lib.hid hJs
      have HKP := Lib.hid hkp
      have HYS := Lib.hid hys
      have HX := Lib.hid hx
      have HCR := Lib.hid hc
      by_cases ht0 : (k : Int) = c.torn
      · have ht : ((k : Int) == c.torn) = true := by simp [ht0]
        have hm0 : c.many k = some (max 0 (min c.at_ 128)).toNat := by unfold Cr.many; simp [ht0]
        obtain ⟨m, hmd⟩ : ∃ m, m = (max 0 (min c.at_ 128)).toNat := ⟨_, rfl⟩
        rw [← hmd] at hm0
        have hmle := Cr.many_le hm0
        have hmi : max 0 (min c.at_ 128) = (m : Int) := by omega
        obtain ⟨fn, tmps, assign, body, hy, hR⟩ := hY ys ⟨(x, m), hxl, hmle, hxN⟩ _ (hJ _ _ (.cells (wcells x).toArray 85) hJs) (by omega)
        simp only [menc] at hy
        have HM := Lib.hid hm0
        have h3 : (128 < c.at_ ∧ ¬ (128 : Int) ≤ 0 ∧ (m : Int) = 128) ∨ (¬ 128 < c.at_ ∧ c.at_ ≤ 0 ∧ (m : Int) = 0) ∨ (¬ 128 < c.at_ ∧ ¬ c.at_ ≤ 0 ∧ (m : Int) = c.at_) := by omega
        clear ht0 hsn hseg hx hm0 hys hkp hJs htk hc hC hmd hmi
        rcases h3 with ⟨e1, e2, e3⟩ | ⟨e1, e2, e3⟩ | ⟨e1, e2, e3⟩
        all_goals
          rw [e3] at hy
          have E3 := Lib.hid e3
          clear e3
          gi_wp2_with (first | (with_reducible refine wpListIn_loadS 85 rfl _ rfl _ rfl _ _ HS.out Try.underlying85 rfl HW.out ?_) | ((with_reducible refine wpListIn_newS3 85 rfl rfl rfl rfl 5 rfl 4 _ rfl rfl _ rfl rfl _ rfl ?_ (wcells x) ?_ i0 zw HI.out HZ0.out HLx.out.1 HLx.out.2 (one_wcells x) ?_); (next => rfl); (next => rfl)) | (with_reducible refine wpListIn_loadS 85 rfl _ rfl _ rfl _ _ HS2.out Try.underlying85 rfl HW.out ?_))
          refine hR.mono ?_
          rintro e W3 (⟨rfl, hJ3, hk3⟩ | ⟨rfl, hJx3⟩)
          · gi_wp2
            go_roundw
            case rel => exact ⟨k + 1, _, by omega, by simp; omega, rfl, by rw [HSN.out, HM.out, List.map_append, HYS.out]; rfl, hJ3, (Kp.trans (HKP.out) (Kp.trans ((Fr.refl _ _).alloc _) hk3))⟩
            case measure => simp [intOf]; omega
          · gi_wp2
            rw [Exit.noGoto_ret]
            refine bodyPost_ret (results_none rfl _ _ _) rfl ?_
            exact ⟨⟨_, rfl⟩, .inr ⟨_, comes_pre HX.out HYS.out HM.out, hJx3⟩⟩
      · have ht : ((k : Int) == c.torn) = false := beq_eq_false_iff_ne.2 ht0
        have HT := Lib.hid ht0
        by_cases hb : k / 8 < c.keep.length
        · have hb1 : (k : Int) / 8 < (c.keep.length : Int) := by omega
          obtain ⟨u, hu⟩ : ∃ u, c.keep[k / 8]? = some u := ⟨c.keep[k / 8], by simp [hb]⟩
          have hkne : c.keep ≠ [] := by intro e; rw [e] at hb; simp at hb
          obtain ⟨ga, rfl, hga1, hga2⟩ : ∃ ga, ak = some ga ∧ ga.block < W.heap.size ∧ Seg W ga (bys c.keep) := by
            rcases hc.row with ⟨ad, cap', e, h1, h2⟩ | ⟨e, h2⟩
            · simp at e; exact ⟨ad, e.1, h1.resolve_left hkne, h2⟩
            · rw [h2] at hb; simp at hb
          have hga3 := hkp.seg hga2 hga1 (hKS hkne ga rfl).1 (hKS hkne ga rfl).2
          have hgc : (wr.alloc (.cells (wcells x).toArray 85)).cell? (ga.add (k / 8)) = some (.int .u8 (u.toNat : Int)) := (hga3.alloc (Nat.lt_of_lt_of_le hga1 hkp.size) _) (k / 8) (u8 u) (by simp [bys, hu])
          by_cases hbb : bits .and .u8 ((u.toNat : Int) / 2 ^ (k % 8)) 1 = 0
          · have hbt : (bits .and .u8 ((u.toNat : Int) / 2 ^ (k % 8)) 1 == 0) = true := by simp [hbb]
            have hbit : c.many k = none := by
              unfold Cr.many Cr.bit
              simp [ht0, hu, hbb]
            have HM := Lib.hid hbit
            clear ht0 hsn hseg hx hys hkp hJs htk hc hC hb hu hga2 hga3 hKS hbit hbb
            gi_wp2_with (first | (with_reducible refine wpListIn_loadS 85 rfl _ rfl _ rfl _ _ HS.out Try.underlying85 rfl HW.out ?_) | ((with_reducible refine wpListIn_newS3 85 rfl rfl rfl rfl 5 rfl 4 _ rfl rfl _ rfl rfl _ rfl ?_ (wcells x) ?_ i0 zw HI.out HZ0.out HLx.out.1 HLx.out.2 (one_wcells x) ?_); (next => rfl); (next => rfl)))
            go_roundw
            case rel => exact ⟨k + 1, ys, by omega, by omega, rfl, by rw [HSN.out, HM.out, HYS.out]; simp, hJ _ _ _ HJ.out, (HKP.out.trans ((Fr.refl _ _).alloc _))⟩
            case measure => simp [intOf]; omega
          · have hbt : (bits .and .u8 ((u.toNat : Int) / 2 ^ (k % 8)) 1 == 0) = false := by simp [hbb]
            have hbit : c.many k = some 128 := by
              unfold Cr.many Cr.bit
              simp [ht0, hu, hbb]
            have HM := Lib.hid hbit
            obtain ⟨fn, tmps, assign, body, hy, hR⟩ := hY ys ⟨(x, 128), hxl, Nat.le_refl _, hxN⟩ _ (hJ _ _ (.cells (wcells x).toArray 85) hJs) (by omega)
            simp only [menc] at hy
            rw [show ((128 : Nat) : Int) = 128 from rfl] at hy
            clear ht0 hsn hseg hx hys hkp hJs htk hc hC hb hu hga2 hga3 hKS hbit hbb
            gi_wp2_with (first | (with_reducible refine wpListIn_loadS 85 rfl _ rfl _ rfl _ _ HS.out Try.underlying85 rfl HW.out ?_) | ((with_reducible refine wpListIn_newS3 85 rfl rfl rfl rfl 5 rfl 4 _ rfl rfl _ rfl rfl _ rfl ?_ (wcells x) ?_ i0 zw HI.out HZ0.out HLx.out.1 HLx.out.2 (one_wcells x) ?_); (next => rfl); (next => rfl)) | (with_reducible refine wpListIn_loadS 85 rfl _ rfl _ rfl _ _ HS2.out Try.underlying85 rfl HW.out ?_))
            refine hR.mono ?_
            rintro e W3 (⟨rfl, hJ3, hk3⟩ | ⟨rfl, hJx3⟩)
            · gi_wp2
              go_roundw
              case rel => exact ⟨k + 1, _, by omega, by simp; omega, rfl, by rw [HSN.out, HM.out, List.map_append, HYS.out]; rfl, hJ3, (Kp.trans (HKP.out) (Kp.trans ((Fr.refl _ _).alloc _) hk3))⟩
              case measure => simp [intOf]; omega
            · gi_wp2
              rw [Exit.noGoto_ret]
              refine bodyPost_ret (results_none rfl _ _ _) rfl ?_
              exact ⟨⟨_, rfl⟩, .inr ⟨_, comes_pre HX.out HYS.out HM.out, hJx3⟩⟩
        · have hb1 : ¬ (k : Int) / 8 < (c.keep.length : Int) := by omega
          have hbit : c.many k = none := by
            unfold Cr.many Cr.bit
            simp [ht0, List.getElem?_eq_none (show c.keep.length ≤ k / 8 by omega)]
          have HM := Lib.hid hbit
          clear ht0 hsn hseg hx hys hkp hJs htk hc hC hb hbit hKS
          gi_wp2_with (first | (with_reducible refine wpListIn_loadS 85 rfl _ rfl _ rfl _ _ HS.out Try.underlying85 rfl HW.out ?_) | ((with_reducible refine wpListIn_newS3 85 rfl rfl rfl rfl 5 rfl 4 _ rfl rfl _ rfl rfl _ rfl ?_ (wcells x) ?_ i0 zw HI.out HZ0.out HLx.out.1 HLx.out.2 (one_wcells x) ?_); (next => rfl); (next => rfl)))
          go_roundw
          case rel => exact ⟨k + 1, ys, by omega, by omega, rfl, by rw [HSN.out, HM.out, HYS.out]; simp, hJ _ _ _ HJ.out, (HKP.out.trans ((Fr.refl _ _).alloc _))⟩
          case measure => simp [intOf]; omega
    · obtain rfl : k = L.length := by omega
      have HYS := Lib.hid hys
      have HJ := Lib.hid hJs
      clear hys hkp hJs hc hC
      gi_wp2
      rw [Exit.noGoto_normal]
      go_end0
      exact ⟨⟨_, rfl⟩, .inl ⟨ys, by rw [HYS.out, List.take_length], HJ.out⟩⟩

/-- comes: two boxes and a function value. -/
theorem comes_in (F : Fence) (n : Nat) (h54 : F.fn 54) (hro : F.round = none) (q : Option Addr) (ak : Option Addr) (nk ck : Nat) (t a : Int) (w : World) :
    CallsIn F n Try.prog 54 #[.pointer q, .agg #[.slice ak nk ck, .int .i64 t, .int .i64 a]] w fun e w' => e = .returned (.func (.func 74) #[] #[.pointer (some ⟨w.heap.size, 0, none⟩), .pointer (some ⟨w.heap.size + 1, 0, none⟩)]) ∧
      w' = (w.alloc (.cells #[.pointer q] 28)).alloc (.cells #[.slice ak nk ck, .int .i64 t, .int .i64 a] 25) := by
  refine callsIn_of_wp Try.func54 rfl h54 ?_ hro
  simp only [Try.ntmps54, List.size_toArray, List.length_cons, List.length_nil, Nat.reduceAdd, Nat.reduceSub, Array.replicate_succ, Array.replicate_zero, List.push_toArray, List.append_toArray, List.nil_append, List.cons_append]
  gi_wp2
  go_ret
  exact ⟨rfl, rfl⟩

theorem BytesV.fr {w W : World} {v : Value} {b : List UInt8} (h : BytesV w v b) {S : Nat → Prop} (hf : Fr S w W) (hn : ∀ a n c, v = .slice (some a) n c → ¬ S a.block) : BytesV W v b := by
  rcases h with ⟨ad, cap, rfl, h1, h2⟩ | ⟨rfl, h2⟩
  · rcases h1 with rfl | h1
    · exact .inl ⟨ad, cap, rfl, .inl rfl, fun j u hj => by simp [bys] at hj⟩
    · exact .inl ⟨ad, cap, rfl, .inr (Nat.lt_of_lt_of_le h1 hf.size), h2.of_block (hf.block _ h1 (hn _ _ _ rfl))⟩
  · exact .inr ⟨rfl, h2⟩

theorem comes_stops (F : Fence) (n : Nat) (h74 : F.fn 74) (hro : F.round = none) (hn : 1 ≤ n) (B1 B2 p n₀ : Nat) (S : Nat → Prop) (vs : Value) (ao : Option Addr) (cap : Nat) (L : List (Nat × List UInt8)) (pl dn cl : Value) (c : Cr) (ak : Option Addr) (capk : Nat) (N : Nat) (hL : ∀ x ∈ L, x.2.length = 128 ∧ x.1 < N) (hfull : L.length ≤ 256)
    (w : World) (hlt : B1 < w.heap.size ∧ B2 < w.heap.size ∧ p < w.heap.size) (hBn : B1 < n₀ ∧ B2 < n₀ ∧ p < n₀) (hBS : ¬ S B1 ∧ ¬ S B2 ∧ ¬ S p) (hB1 : w.cell? ⟨B1, 0, none⟩ = some (.pointer (some ⟨p, 0, none⟩))) (hp : w.heap[p]? = some (.cells #[vs, .slice ao L.length cap, pl, dn, cl] 67 (0, 0))) (hc : CrAt w B2 c ak capk)
    (hKS : c.keep ≠ [] → ∀ a, ak = some a → a.block < n₀ ∧ ¬ S a.block) (hC : CacheIn S n₀ w ao L) :
    SeqStopsK F n Try.prog 74 #[.pointer (some ⟨B1, 0, none⟩), .pointer (some ⟨B2, 0, none⟩)] (menc (N := N)) (Kp S n₀) (fun ys => ys.map (·.1) = c.comesFrom 0 L) (fun pre => pre.map (·.1) <+: c.comesFrom 0 L) L.length w := fun l J Jx W hW hJo _ hY h0 => by
  have hf : Kp S n₀ w W := Fr.of_below hW _
  have hcW : CrAt W B2 c ak capk := ⟨(hW.block B2 hlt.2.1).trans hc.blk, hc.row.fr (Fr.of_below hW (fun _ => False)) (fun _ _ _ _ e => e), hc.len, hc.t1, hc.t2⟩
  refine comes1_in F n h74 hro hn l B1 B2 p n₀ S vs ao cap L pl dn cl c ak capk N hL hfull J Jx hY ?_ W ⟨Nat.lt_of_lt_of_le hlt.1 hW.size, Nat.lt_of_lt_of_le hlt.2.1 hW.size, Nat.lt_of_lt_of_le hlt.2.2 hW.size⟩ hBn hBS ((hW.cell (p := ⟨B1, 0, none⟩) hlt.1).trans hB1) ((hW.block p hlt.2.2).trans hp) hcW hKS (hC.kp hf) h0
  exact fun pre W o h => hJo pre W _ none h (World.grownBy_alloc W o none) (by simp)
end Go.Proofs.Ytbmankbbkemkcaa
