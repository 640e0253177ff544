/-
  BlockdevKeeps: for every input the given function returns true and leaves what was there as it was. No condition. The row's frame was written by the kit's proof-skeleton.mjs; the walk is YtbmankbbkemkcaaKeep.
-/
import Derived.Test.YtbmankbbkemkcaaRows
import Derived.Test.YtbmankbbkemkcaaKeep
import Derived.WalkKit
import Derived.ProofKit
import Derived.OpenShut
import Derived.ShutString
import Derived.ChangeOld
import Derived.Below
namespace Go.Proofs.Ytbmankbbkemkcaa.blockdevKeeps
open Go.ChangeShapes Go.WideShapes Go.ChangeAt Go.RowKit
open Go.ChangeMaps (open_string shut_string)
set_option linter.unusedVariables false

theorem own : ownKnob Try.prog.godebug = none := by kernel_rfl
theorem laidOut : laidOutB Try.prog = true := by kernel_rfl

theorem arr3 (cs : Array Value) (h : cs.size = 3) : ∃ a b c, cs = #[a, b, c] := by
  obtain ⟨l⟩ := cs
  match l, h with
  | [a, b, c], _ => exact ⟨a, b, c, rfl⟩

/-- a crash that comes in -/
theorem open_crash {H : Type} {enc : TypeId × Value → H} {w : World} {spare : Nat → Bool} {held : Bool} {fuel : Nat} {v0 v1 v2 : Value} {x : DataW H × List MemPlace} (h : DataW.trod enc Try.prog w 0 spare held fuel 25 [v0, v1, v2] = some x) :
    ∃ (c : Cr) (ak : Option Addr) (ck : Nat), v0 = .slice ak c.keep.length ck ∧ v1 = .int .i64 c.torn ∧ v2 = .int .i64 c.at_ ∧ BytesV w (.slice ak c.keep.length ck) c.keep ∧ I64 c.torn ∧ I64 c.at_ := by
  obtain ⟨zs, k', rfl, _, _, hzl, hg⟩ := DataW.trod_struct Try.underlying25 h
  match zs, hzl with
  | [z0, z1, z2], _ =>
    have q0 := hg 0 _ rfl
    have q1 := hg 1 _ rfl
    have q2 := hg 2 _ rfl
    simp [cells3, cells23] at q0 q1 q2
    obtain ⟨ak, ck, kb, rfl, hk⟩ := open_keep q0
    obtain ⟨n5, e5, _, w5⟩ := DataW.trod_int Try.underlying3 q1
    obtain ⟨n6, e6, _, w6⟩ := DataW.trod_int Try.underlying3 q2
    simp only [List.cons.injEq, and_true] at e5 e6
    subst e5 e6
    exact ⟨⟨kb, n5, n6⟩, ak, ck, rfl, rfl, rfl, hk, wf_i64 w5, wf_i64 w6⟩

/-! ### THE ROW's STEP -/
set_option maxRecDepth 100000 in
theorem lifted (os : Os) (started : os.Started) (H : Type) (enc : TypeId × Value → H) :
    ReturnsInHanded {} Try.checked os 3 .any (Rows.blockdevKeepsSpec.pre6 enc Try.prog Try.f3 Rows.blockdevKeepsRow.domain false) (Rows.blockdevKeepsSpec.post enc Try.prog Try.f3 false true false false) := by
  refine returnsInHanded_of_change (C := Try.checked) own started (by kernel_rfl) Try.func3
    (ChangeSpec.witness6 (enc := enc) (C := Try.checked) false ⟨#[], #[.slice none 0 0, .slice none 0 0, .agg #[.slice none 0 0, .int .i64 0, .int .i64 0]], []⟩ 8 (by kernel_rfl) (by kernel_rfl) (by kernel_rfl) (by kernel_rfl)) ?_
  intro W base args ds gs before hval0 hW hcnd _
  have hval : ∀ (j : Nat) t v, Try.f3.params[j]? = some t → args[j]? = some v → Value.okWide Try.prog W .any base t v := hval0
  have hW' := hW
  obtain ⟨p, q, hA0, hV, rfl, hfz, hnd⟩ := hW
  have hA : DataW.TrodAll enc Try.prog W 0 (fun _ => true) true Try.f3.params.toList args.toList ds p := hA0
  rw [Try.params3] at hA hval
  obtain ⟨v0, vs0, d0, ds0, p0, q0, hargs, rfl, rfl, h0, r0⟩ := trodAll_cons hA
  obtain ⟨v1, vs1, d1, ds1, p1, q1, rfl, rfl, rfl, h1, r1⟩ := trodAll_cons r0
  obtain ⟨v2, vs2, d2, ds2, p2, q2, rfl, rfl, rfl, h2, r2⟩ := trodAll_cons r1
  obtain ⟨rfl, rfl, rfl⟩ := trodAll_nil r2
  obtain rfl : args = #[v0, v1, v2] := by cases args; simp_all
  obtain ⟨rfl, rfl⟩ := trodVars_none hV
  obtain ⟨a0, len0, cap0, rfl⟩ := okWide_slice Try.underlying22 (hval 0 22 v0 rfl rfl)
  obtain ⟨a1, len1, cap1, rfl⟩ := okWide_slice Try.underlying22 (hval 1 22 v1 rfl rfl)
  obtain ⟨cs, rfl, hcs⟩ := okWide_struct Try.underlying25 (hval 2 25 v2 rfl rfl)
  rw [cells25] at hcs
  obtain ⟨z0, z1, z2, rfl⟩ := arr3 cs hcs
  have k0 := h0
  have k1 := h1
  have k2 := h2
  have lt0 : ∀ x ∈ p0, x.block < W.heap.size := by obtain ⟨m, hm⟩ := k0; exact DataW.trod_lt m _ _ _ hm
  have lt1 : ∀ x ∈ p1, x.block < W.heap.size := by obtain ⟨m, hm⟩ := k1; exact DataW.trod_lt m _ _ _ hm
  have lt2 : ∀ x ∈ p2, x.block < W.heap.size := by obtain ⟨m, hm⟩ := k2; exact DataW.trod_lt m _ _ _ hm
  obtain ⟨L0, w0⟩ : ∃ L, OpsIn W (.slice a0 len0 cap0) L := by obtain ⟨fuel, hf⟩ := h0; exact open_ops hf
  obtain ⟨L1, w1⟩ : ∃ L, OpsIn W (.slice a1 len1 cap1) L := by obtain ⟨fuel, hf⟩ := h1; exact open_ops hf
  obtain ⟨c, ak, ck, rfl, rfl, rfl, hkb, ht, ha⟩ : ∃ (c : Cr) (ak : Option Addr) (ck : Nat), z0 = .slice ak c.keep.length ck ∧ z1 = .int .i64 c.torn ∧ z2 = .int .i64 c.at_ ∧ BytesV W (.slice ak c.keep.length ck) c.keep ∧ I64 c.torn ∧ I64 c.at_ := by
    obtain ⟨fuel, hf⟩ := h2
    have hc3 : (Value.agg #[z0, z1, z2]).cells.toList = [z0, z1, z2] := rfl
    rw [hc3] at hf
    exact open_crash hf
  clear hA0 hval0
  refine (keeps_walk W a0 len0 cap0 L0 w0 a1 len1 cap1 L1 w1 c ak _ ck rfl hkb _ _ rfl rfl ht ha).mono fun e W' ⟨he, bel⟩ => ?_
  subst he
  exact ⟨_, rfl, _, _, _, [], _, [], hW', trodAll_mk1 (shut_bool Try.underlying4 _), (trodAll_cons_mk (Below.trod laidOut (by kernel_rfl) (of_decide_eq_true (by kernel_rfl)) k0 bel lt0) (trodAll_cons_mk (Below.trod laidOut (by kernel_rfl) (of_decide_eq_true (by kernel_rfl)) k1 bel lt1) (trodAll_cons_mk (Below.trod laidOut (by kernel_rfl) (of_decide_eq_true (by kernel_rfl)) k2 bel lt2) trodAll_mk0))), rfl, bel.frame _, fun h => by cases h⟩

theorem over : Rows.blockdevKeepsRow.holds Try.pinned (OpenSpec.ofChange Rows.blockdevKeepsSpec) :=
  OpenClaim.holds_of_wide 3 Try.f3 rfl rfl rfl rfl rfl rfl rfl ⟨rfl, rfl, rfl, rfl, rfl⟩ rfl rfl rfl rfl rfl (by kernel_rfl) Try.func3 (by kernel_rfl)
    (of_decide_eq_true (by kernel_rfl)) (by unfold Func.isWrapper; first | (rw [if_pos (by decide +kernel)]; kernel_rfl) | (rw [if_neg (by decide +kernel)]; exact ⟨rfl, rfl⟩))
    (fun os started H enc _ => lifted os started H enc)

/-- ████ THE STATEMENT ████ -/
theorem proved : Rows.BlockdevKeepsSaid :=
  over
#print axioms proved
end Go.Proofs.Ytbmankbbkemkcaa.blockdevKeeps
