/- slices.Backward over the cache. -/
import Derived.RangeFuncNested
import Derived.RangeFuncBound
import Derived.RangeFuncCalls
import Derived.RangeFuncLeaves
import Derived.Shelf.Abstract
import Derived.Shelf.RegionOpen
import Derived.OwnWalkIn
import Derived.TacticsInMore
import Derived.LoopNIn
import Derived.LoopIn
import Derived.Test.YtbmankbbkemkcaaCopy
namespace Go.Proofs.Ytbmankbbkemkcaa
open Go.RowKit Go.Shelf
attribute [local go_sem] Oper.semAt_some

/-- what a round keeps: all but S and what is new -/
def Kp (S : Nat → Prop) (n₀ : Nat) (W W' : World) : Prop := Fr (fun k => S k ∨ n₀ ≤ k) W W'

theorem Kp.trans {S : Nat → Prop} {n₀ : Nat} {A B C : World} (h : Kp S n₀ A B) (k : Kp S n₀ B C) : Kp S n₀ A C := Fr.trans' h k
theorem Kp.putObj {S : Nat → Prop} {n₀ : Nat} (W : World) (l : Nat) (o' : Obj) (h : n₀ ≤ l) : Kp S n₀ W (W.putObj l o') :=
  ⟨rfl, rfl, rfl, by simp, fun k _ hn => World.putObj_heap_other (fun e => hn (.inr (by omega)))⟩
theorem Kp.seg {S : Nat → Prop} {n₀ : Nat} {A B : World} (h : Kp S n₀ A B) {ad : Addr} {xs : List Value} (hs : Seg A ad xs) (h1 : ad.block < A.heap.size) (h2 : ad.block < n₀) (h3 : ¬ S ad.block) : Seg B ad xs :=
  hs.of_block (h.block _ h1 (fun e => e.elim h3 (fun e => by omega)))
theorem Kp.cell {S : Nat → Prop} {n₀ : Nat} {A B : World} (h : Kp S n₀ A B) {ad : Addr} (h1 : ad.block < A.heap.size) (h2 : ad.block < n₀) (h3 : ¬ S ad.block) : B.cell? ad = A.cell? ad :=
  World.cell?_of_block (h.block _ h1 (fun e => e.elim h3 (fun e => by omega)))

/-- an index and a write -/
abbrev WR := { y : Nat × (Nat × List UInt8) // y.2.2.length = 128 }
def wenc (y : WR) : Array Value := #[.int .i64 (y.1.1 : Int), .agg (wcells y.1.2).toArray]

/-- the cache's cells, as an iterator reads them -/
def CacheIn (S : Nat → Prop) (n₀ : Nat) (W : World) (ao : Option Addr) (L : List (Nat × List UInt8)) : Prop :=
  ∀ k x, L[k]? = some x → ∃ g, ao = some ⟨g, 0, none⟩ ∧ g < n₀ ∧ g < W.heap.size ∧ ¬ S g ∧ Seg W ⟨g, k * 129, none⟩ (wcells x)

theorem CacheIn.kp {S : Nat → Prop} {n₀ : Nat} {A B : World} (h : Kp S n₀ A B) {ao : Option Addr} {L : List (Nat × List UInt8)} (hc : CacheIn S n₀ A ao L) : CacheIn S n₀ B ao L := by
  intro k x hx
  obtain ⟨g, h1, h2, h3, h4, h5⟩ := hc k x hx
  exact ⟨g, h1, h2, Nat.lt_of_lt_of_le h3 h.size, h4, h.seg h5 h3 h2 h4⟩

theorem rev_take_succ (L : List (Nat × List UInt8)) (k : Nat) (h : k < L.length) : L.reverse.take (k + 1) = L.reverse.take k ++ [L[L.length - 1 - k]'(by omega)] := by
  rw [List.take_succ_eq_append_getElem (by simpa using h)]
  simp

set_option maxRecDepth 100000 in
set_option maxHeartbeats 1000000 in
theorem back1_in (F : Fence) (n : Nat) (h73 : F.fn 73) (hro : F.round = none) (hn : 1 ≤ n) (l Bs n₀ : Nat) (S : Nat → Prop) (ao : Option Addr) (cap : Nat) (L : List (Nat × List UInt8)) (hL : ∀ x ∈ L, x.2.length = 128) (hfull : L.length ≤ 256)
    (J Jx : List WR → World → Prop)
    (hY : ∀ pre x W, J pre W → pre.length < L.length → YieldAt F (n - 1) Try.prog l (wenc x) W fun e W' =>
      (e = .returned (.bool true) ∧ J (pre ++ [x]) W' ∧ Kp S n₀ W W') ∨ (e = .returned (.bool false) ∧ Jx (pre ++ [x]) W'))
    (W : World) (hBlt : Bs < W.heap.size) (hBn : Bs < n₀) (hBS : ¬ S Bs) (hBs : W.cell? ⟨Bs, 0, none⟩ = some (.slice ao L.length cap)) (hC : CacheIn S n₀ W ao L) (h0 : J [] W) :
    CallsIn F n Try.prog 73 #[.func (.yield l) #[] #[], .pointer (some ⟨Bs, 0, none⟩)] W fun e W' => (∃ v, e = .returned v) ∧
      ((∃ ys, ys.map (·.1.2) = L.reverse ∧ J ys W') ∨ (∃ pre, pre.map (·.1.2) <+: L.reverse ∧ Jx pre W')) := by
  refine callsIn_of_wp Try.func73 rfl h73 ?_ hro
  simp only [Try.ntmps73, List.size_toArray, List.length_cons, List.length_nil, Nat.reduceAdd, Nat.reduceSub, Array.replicate_succ, Array.replicate_zero, List.push_toArray, List.append_toArray, List.nil_append, List.cons_append]
  gi_wp2
  gi_loopw [3] (fun i wr => ∃ (m k : Nat) (ys : List WR), m + k = L.length ∧ i = .int .i64 ((m : Int) - 1) ∧ ys.map (·.1.2) = L.reverse.take k ∧ J ys wr ∧ Kp S n₀ W wr) (fun i _ => (intOf i + 1).toNat)
  case atStart => exact ⟨L.length, 0, [], rfl, rfl, by simp, h0, Fr.refl _ _⟩
  case round =>
    obtain ⟨m, k, ys, hmk, rfl, hys, hJs, hkp⟩ := hrel
    have hlen : ys.length = k := by have := congrArg List.length hys; simp at this; omega
    have hb := (hkp.cell (ad := ⟨Bs, 0, none⟩) hBlt hBn hBS).trans hBs
    rcases m with _ | j
    · have HY := Lib.hid hys
      obtain rfl : k = L.length := by omega
      clear hys hmk hlen
      gi_wp2
      go_end0
      exact ⟨⟨_, rfl⟩, .inl ⟨ys, by rw [HY.out]; exact List.take_of_length_le (by simp), hJs⟩⟩
    · have hj : j < L.length := by omega
      obtain ⟨x, hx⟩ : ∃ x, L[j]? = some x := ⟨L[j], by simp [hj]⟩
      have hxl := hL x (List.mem_of_getElem? hx)
      obtain ⟨g, rfl, hg1, hg2, hg3, hseg⟩ := hC j x hx
      have HS := Lib.hid (hkp.seg hseg hg2 hg1 hg3)
      have HW : Hid (Option.map (fun x => x.size) (Try.prog.info? 85) = some (wcells x).length) := by show _ = _; rw [size85]; simp [wcells, bys_length, hxl]
      obtain ⟨fn, tmps, assign, body, hy, hR⟩ := hY ys ⟨(j, x), hxl⟩ wr hJs (by omega)
      simp only [wenc] at hy
      have e1 : (((j + 1 : Nat) : Int) - 1) = (j : Int) := by omega
      rw [e1]
      have hup : ∀ y : WR, y.1.2 = x → (ys ++ [y]).map (·.1.2) = L.reverse.take (k + 1) := by
        intro y hyx
        rw [rev_take_succ L k (by omega), List.map_append, hys]
        have : L[L.length - 1 - k]'(by omega) = x := by
          have h2 := List.getElem?_eq_getElem (l := L) (i := j) hj
          rw [h2] at hx
          have h3 : L.length - 1 - k = j := by omega
          simp only [h3]
          exact Option.some.inj hx
        simp [this, hyx]
      have HUP := Lib.hid hup
      have HY := Lib.hid hys
      have HMK := Lib.hid hmk
      clear hup hys hmk hlen e1 hseg hx
      gi_wp2_with (with_reducible refine wpListIn_loadS 85 rfl _ rfl _ rfl _ _ HS.out Try.underlying85 rfl HW.out ?_)
      refine hR.mono ?_
      rintro e W3 (⟨rfl, hJ3, hk3⟩ | ⟨rfl, hJx3⟩)
      · gi_wp2
        go_roundw
        case rel => exact ⟨j, k + 1, _, by have := HMK.out; omega, rfl, HUP.out _ rfl, hJ3, hkp.trans hk3⟩
        case measure => simp [intOf]
      · gi_wp2
        refine bodyPost_ret (results_none rfl _ _ _) rfl ?_
        exact ⟨⟨_, rfl⟩, .inr ⟨_, by rw [HUP.out _ rfl]; exact List.take_prefix _ _, hJx3⟩⟩

/-- slices.Backward: the value is boxed. -/
theorem back_in (F : Fence) (n : Nat) (h49 : F.fn 49) (hro : F.round = none) (ao : Option Addr) (m cap : Nat) (w : World) :
    CallsIn F n Try.prog 49 #[.slice ao m cap] w fun e w' => e = .returned (.func (.func 73) #[] #[.pointer (some ⟨w.heap.size, 0, none⟩)]) ∧ w' = w.alloc (.cells #[.slice ao m cap] 65) := by
  refine callsIn_of_wp Try.func49 rfl h49 ?_ hro
  simp only [Try.ntmps49, List.size_toArray, List.length_cons, List.length_nil, Nat.reduceAdd, Nat.reduceSub, Array.replicate_succ, Array.replicate_zero, List.push_toArray, List.append_toArray, List.nil_append, List.cons_append]
  gi_wp2
  go_ret
  exact ⟨rfl, rfl⟩

theorem back_stops (F : Fence) (n : Nat) (h73 : F.fn 73) (hro : F.round = none) (hn : 1 ≤ n) (Bs n₀ : Nat) (S : Nat → Prop) (ao : Option Addr) (cap : Nat) (L : List (Nat × List UInt8)) (hL : ∀ x ∈ L, x.2.length = 128) (hfull : L.length ≤ 256) (w : World) (hBs : Bs < w.heap.size) (hBn : Bs < n₀) (hBS : ¬ S Bs)
    (hc : w.cell? ⟨Bs, 0, none⟩ = some (.slice ao L.length cap)) (hC : CacheIn S n₀ w ao L) :
    SeqStopsK F n Try.prog 73 #[.pointer (some ⟨Bs, 0, none⟩)] wenc (Kp S n₀) (fun ys => ys.map (·.1.2) = L.reverse) (fun pre => pre.map (·.1.2) <+: L.reverse) L.length w := fun l J Jx W hW _ _ hY h0 => by
  have hf : Kp S n₀ w W := Fr.of_below hW _
  exact back1_in F n h73 hro hn l Bs n₀ S ao cap L hL hfull J Jx hY W (Nat.lt_of_lt_of_le hBs hW.size) hBn hBS ((hW.cell (p := ⟨Bs, 0, none⟩) hBs).trans hc) (hC.kp hf) h0
end Go.Proofs.Ytbmankbbkemkcaa
