/- []Op as it comes in; Great; Bytes. -/
import Derived.Test.YtbmankbbkemkcaaAliv
import Derived.Deep.Slices
import Derived.ChangeSlices
import Derived.ChangeArms
namespace Go.Proofs.Ytbmankbbkemkcaa
open Go.ChangeShapes Go.WideShapes Go.RowKit Go.Deep

/-- an Op, and where its keep bits lie -/
structure OpX where
  x : OpL
  ak : Option Addr
  ck : Nat
def OpX.cells (o : OpX) : List Value := [.int .i64 o.x.kind, .int .i64 o.x.n, .int .u8 (o.x.b.toNat : Int), .int .i64 o.x.len, .slice o.ak o.x.c.keep.length o.ck, .int .i64 o.x.c.torn, .int .i64 o.x.c.at_]
def I64 (n : Int) : Prop := -9223372036854775808 ≤ n ∧ n < 9223372036854775808
structure OpX.Ok (w : World) (o : OpX) : Prop where
  keep : BytesV w (.slice o.ak o.x.c.keep.length o.ck) o.x.c.keep
  i1 : I64 o.x.kind
  i2 : I64 o.x.n
  i3 : I64 o.x.len
  i4 : I64 o.x.c.torn
  i5 : I64 o.x.c.at_

/-- a slice of Ops -/
def OpsIn (w : World) (v : Value) (L : List OpX) : Prop :=
  (v = .slice none 0 0 ∧ L = []) ∨ ∃ ad cap, v = .slice (some ad) L.length cap ∧ (L = [] ∨ ad.block < w.heap.size) ∧ ∀ i o, L[i]? = some o → Seg w (ad.add (i * 7)) o.cells ∧ o.Ok w

theorem wf_i64 {n : Int} (h : (Lit.int .i64 n).wf = true) : I64 n := by
  simp [Lit.wf] at h
  have e : IntKind.i64.min = -9223372036854775808 := by decide
  rw [e] at h
  unfold I64; omega
theorem wf_u8 {n : Int} (h : (Lit.int .u8 n).wf = true) : ∃ u : UInt8, n = (u.toNat : Int) := by
  simp [Lit.wf] at h
  have e : IntKind.u8.min = 0 := by decide
  have e2 : IntKind.u8.max = 255 := by decide
  rw [e, e2] at h
  refine ⟨UInt8.ofNat n.toNat, ?_⟩
  rw [UInt8.toNat_ofNat_of_lt' (by show n.toNat < 256; omega)]
  omega

theorem cell_lt {w : World} {a : Addr} {v : Value} (h : w.cell? a = some v) : a.block < w.heap.size := by
  unfold World.cell? at h
  split at h
  · next hh => exact (Array.getElem?_eq_some_iff.1 hh).1
  · cases h
theorem add_blk (a : Addr) (n : Nat) : (a.add n).block = a.block := by unfold Addr.add; split <;> rfl

theorem cells3 : Try.prog.cellsOf 3 = 1 := by kernel_rfl
theorem cells5 : Try.prog.cellsOf 5 = 1 := by kernel_rfl
theorem cells23 : Try.prog.cellsOf 23 = 1 := by kernel_rfl
theorem cells25 : Try.prog.cellsOf 25 = 3 := by kernel_rfl
theorem cells34 : Try.prog.cellsOf 34 = 7 := by kernel_rfl

section
variable {H : Type} {enc : TypeId × Value → H} {w : World} {spare : Nat → Bool} {held : Bool}

/-- the cell of a slice of bytes -/
theorem open_keep {fuel : Nat} {v : Value} {x : DataW H × List MemPlace} (h : DataW.trod enc Try.prog w 0 spare held fuel 23 [v] = some x) : ∃ ak ck b, v = .slice ak b.length ck ∧ BytesV w (.slice ak b.length ck) b := by
  rcases open_ints Try.underlying23 Try.underlying5 (by kernel_rfl) h with ⟨hcs, _⟩ | ⟨a, l, c, zs, hcs, _, hl, hm, hz, hx, hcell, hwz⟩
  · simp at hcs
    exact ⟨none, 0, [], hcs, .inr ⟨rfl, rfl⟩⟩
  · simp at hcs
    have hzl : l ≤ zs.length := by rw [hz]; split <;> omega
    have hu : ∀ i, ∃ u : UInt8, i < l → zs.getD i 0 = (u.toNat : Int) := fun i => by
      by_cases hi : i < l
      · obtain ⟨u, hu⟩ := wf_u8 (hwz (zs.getD i 0) (by simp [List.getD, show i < zs.length by omega]))
        exact ⟨u, fun _ => hu⟩
      · exact ⟨0, fun h => absurd h hi⟩
    obtain ⟨f, hf⟩ := Classical.axiomOfChoice hu
    refine ⟨some a, c, (List.range l).map f, by simpa using hcs, .inl ⟨a, c, by simp, ?_, ?_⟩⟩
    · rcases Nat.eq_zero_or_pos l with h0 | h0
      · exact .inl (by simp [h0])
      · have := cell_lt (hcell 0 (by omega))
        rw [add_blk] at this
        exact .inr this
    · intro j u hj
      have hjl : j < l := by have := (List.getElem?_eq_some_iff.1 hj).1; simpa [bys] using this
      rw [hcell j (by omega), hf j hjl]
      simpa [bys, hjl, u8] using hj

set_option maxRecDepth 100000 in
/-- one Op -/
theorem open_op {n : Nat} {a : Addr} {cs : List Value} {x : DataW H × List MemPlace} (h1 : w.cells? 0 a 7 = some cs) (h2 : DataW.trod enc Try.prog w 0 spare held n 34 cs = some x) : ∃ o : OpX, Seg w a o.cells ∧ o.Ok w := by
  obtain ⟨_, hlen, hcell⟩ := World.cells?_some h1
  obtain ⟨xs, k, rfl, _, _, hxl, hf⟩ := DataW.trod_struct Try.underlying34 h2
  match xs, hxl, cs, hlen with
  | [y0, y1, y2, y3, y4], _, [v0, v1, v2, v3, v4, v5, v6], _ =>
    have g0 := hf 0 _ rfl
    have g1 := hf 1 _ rfl
    have g2 := hf 2 _ rfl
    have g3 := hf 3 _ rfl
    have g4 := hf 4 _ rfl
    simp [cells3, cells5, cells25] at g0 g1 g2 g3 g4
    obtain ⟨n0, e0, _, w0⟩ := DataW.trod_int Try.underlying3 g0
    obtain ⟨n1, e1, _, w1⟩ := DataW.trod_int Try.underlying3 g1
    obtain ⟨n2, e2, _, w2⟩ := DataW.trod_int Try.underlying5 g2
    obtain ⟨n3, e3, _, w3⟩ := DataW.trod_int Try.underlying3 g3
    obtain ⟨zs, k', rfl, _, _, hzl, hg⟩ := DataW.trod_struct Try.underlying25 g4
    match zs, hzl with
    | [z0, z1, z2], _ =>
      have q0 := hg 0 _ rfl
      have q1 := hg 1 _ rfl
      have q2 := hg 2 _ rfl
      simp [cells3, cells23] at q0 q1 q2
      obtain ⟨ak, ck, kb, rfl, hk⟩ := open_keep q0
      obtain ⟨n5, e5, _, w5⟩ := DataW.trod_int Try.underlying3 q1
      obtain ⟨n6, e6, _, w6⟩ := DataW.trod_int Try.underlying3 q2
      obtain ⟨u, rfl⟩ := wf_u8 w2
      simp only [List.cons.injEq, and_true] at e0 e1 e2 e3 e5 e6
      subst e0 e1 e2 e3 e5 e6
      refine ⟨⟨⟨n0, n1, u, n3, ⟨kb, n5, n6⟩⟩, ak, ck⟩, ?_, ⟨hk, wf_i64 w0, wf_i64 w1, wf_i64 w3, wf_i64 w5, wf_i64 w6⟩⟩
      intro j v hj
      have hj7 : j < 7 := by have := (List.getElem?_eq_some_iff.1 hj).1; simpa [OpX.cells] using this
      rw [hcell j hj7]
      exact hj

/-- a slice of Ops -/
theorem open_ops {fuel : Nat} {v : Value} {x : DataW H × List MemPlace} (h : DataW.trod enc Try.prog w 0 spare held fuel 22 [v] = some x) : ∃ L, OpsIn w v L := by
  rcases open_slice Try.underlying22 h with ⟨hcs, _⟩ | ⟨a, len, cap, m, n, D, Pl, hcs, _, hl, hm, hmm, _, hx⟩
  · simp at hcs
    exact ⟨[], .inl ⟨hcs, rfl⟩⟩
  · simp at hcs
    have hlm : len ≤ m := by rw [hmm]; split <;> omega
    have hu : ∀ i, ∃ o : OpX, i < len → Seg w (a.add (i * 7)) o.cells ∧ o.Ok w := fun i => by
      by_cases hi : i < len
      · obtain ⟨cs', h1, h2⟩ := hx i (by omega)
        rw [cells34] at h1
        obtain ⟨o, ho⟩ := open_op h1 h2
        exact ⟨o, fun _ => ho⟩
      · exact ⟨⟨⟨0, 0, 0, 0, ⟨[], 0, 0⟩⟩, none, 0⟩, fun h => absurd h hi⟩
    obtain ⟨f, hf⟩ := Classical.axiomOfChoice hu
    refine ⟨(List.range len).map f, .inr ⟨a, cap, by simpa using hcs, ?_, ?_⟩⟩
    · rcases Nat.eq_zero_or_pos len with h0 | h0
      · exact .inl (by simp [h0])
      · have h3 := (hf 0 h0).1 0 _ rfl
        have := cell_lt h3
        rw [add_blk, add_blk] at this
        exact .inr this
    · intro i o ho
      have hi : i < len := by have := (List.getElem?_eq_some_iff.1 ho).1; simpa using this
      have : f i = o := by simpa [hi] using ho
      rw [← this]
      exact hf i hi
end
end Go.Proofs.Ytbmankbbkemkcaa
