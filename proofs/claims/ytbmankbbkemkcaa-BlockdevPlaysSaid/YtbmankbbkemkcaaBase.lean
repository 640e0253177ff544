/- The device's plain model (no program in sight) and how it lies in memory. Nothing here is a statement of the claim. -/
import Derived.WalkKit
import Derived.Deep.AppendLies
import Derived.Lib.Hide
import Derived.WalkSpells
namespace Go.Proofs.Ytbmankbbkemkcaa
open Go.RowKit

/-- a byte's cell -/
abbrev u8 (c : UInt8) : Value := .int .u8 (c.toNat : Int)
/-- bytes as cells -/
def bys (l : List UInt8) : List Value := l.map u8

theorem bys_length (l : List UInt8) : (bys l).length = l.length := by simp [bys]
theorem bys_get (l : List UInt8) (j : Nat) (h : j < l.length) : (bys l)[j]? = some (u8 l[j]) := by simp [bys, h]

/-- the device, as the document has it -/
structure Dv where
  safe : List (List UInt8)
  cache : List (Nat × List UInt8)
  plan : Nat
  down : Bool
  calls : Nat

/-- a write's 129 cells -/
def wcells (x : Nat × List UInt8) : List Value := .int .i64 (x.1 : Int) :: bys x.2

/-- Blocks outside S that were there are as they were. -/
structure Fr (S : Nat → Prop) (w w' : World) : Prop where
  os : w'.os = w.os
  tape : w'.tape = w.tape
  output : w'.output = w.output
  size : w.heap.size ≤ w'.heap.size
  block : ∀ k, k < w.heap.size → ¬ S k → w'.heap[k]? = w.heap[k]?

theorem Fr.refl (S : Nat → Prop) (w : World) : Fr S w w := ⟨rfl, rfl, rfl, Nat.le_refl _, fun _ _ _ => rfl⟩
theorem Fr.mono {S T : Nat → Prop} {w w' : World} (h : Fr S w w') (hst : ∀ k, k < w.heap.size → S k → T k) : Fr T w w' :=
  ⟨h.os, h.tape, h.output, h.size, fun k hk hn => h.block k hk fun hs => hn (hst k hk hs)⟩
theorem Fr.trans {S : Nat → Prop} {a b c : World} (h : Fr S a b) (k : Fr (fun i => S i ∨ a.heap.size ≤ i) b c) : Fr S a c :=
  ⟨k.os.trans h.os, k.tape.trans h.tape, k.output.trans h.output, Nat.le_trans h.size k.size, fun i hi hn =>
    (k.block i (Nat.lt_of_lt_of_le hi h.size) (fun e => e.elim hn (fun e => by omega))).trans (h.block i hi hn)⟩
theorem Fr.trans' {S : Nat → Prop} {a b c : World} (h : Fr S a b) (k : Fr S b c) : Fr S a c := h.trans (k.mono fun _ _ h => .inl h)
theorem Fr.of_below {w w' : World} (h : Below w.heap.size w w') (S : Nat → Prop) : Fr S w w' :=
  ⟨h.os, h.tape, h.output, h.size, fun k hk _ => h.block k hk⟩
theorem Fr.below {w w' : World} {S : Nat → Prop} (h : Fr S w w') (hS : ∀ k, S k → w.heap.size ≤ k) : Below w.heap.size w w' :=
  ⟨h.os, h.tape, h.output, h.size, fun k hk => h.block k hk (fun hs => by have := hS k hs; omega)⟩
theorem Fr.drew {S : Nat → Prop} {a w : World} (h : Fr S a w) : Fr S a w.drew := ⟨h.os, h.tape, h.output, h.size, h.block⟩
theorem Fr.alloc {S : Nat → Prop} {a w : World} (h : Fr S a w) (o : Obj) : Fr S a (w.alloc o) :=
  h.trans (.of_below ((Below.refl _ _).alloc (Nat.le_refl _) o) _)
theorem Fr.setCell {S : Nat → Prop} {a w : World} (h : Fr S a w) {p : Addr} (hp : S p.block ∨ a.heap.size ≤ p.block) (u : Value) : Fr S a (w.setCell p u) :=
  h.trans ⟨rfl, rfl, rfl, by simp [World.setCell], fun k _ hn => Below.heap_setCell _ _ _ _ (fun e => hn (by rw [e]; exact hp))⟩
theorem Fr.grown {S : Nat → Prop} {a w w' : World} {row : Option Nat} (h : Fr S a w) (hg : w.grownBy w' row) (hr : ∀ k, row = some k → S k ∨ a.heap.size ≤ k) : Fr S a w' :=
  h.trans ⟨hg.os, hg.tape, hg.output, hg.size, fun k hk hn => hg.block k hk (fun e => hn (hr k e.symm))⟩

theorem Fr.setRow {S : Nat → Prop} {a w : World} (h : Fr S a w) {g : Nat} (hg : S g ∨ a.heap.size ≤ g) (cs : Array Value) : Fr S a (w.setRow g cs) :=
  h.trans ⟨rfl, rfl, rfl, by simp, fun k _ hn => setRow_other w g k cs (fun e => hn (by rw [e]; exact hg))⟩
theorem Fr.one (w : World) (p i : Nat) (v : Value) : Fr (fun k => k = p) w (w.setCell ⟨p, i, none⟩ v) := Fr.setCell (S := fun k => k = p) (p := ⟨p, i, none⟩) (Fr.refl _ w) (.inl rfl) v

/-- cells in a row -/
def Seg (w : World) (ad : Addr) (xs : List Value) : Prop := ∀ j u, xs[j]? = some u → w.cell? (ad.add j) = some u

theorem Seg.of_cells {w w' : World} {ad : Addr} {xs : List Value} (h : Seg w ad xs) (hc : ∀ j, j < xs.length → w'.cell? (ad.add j) = w.cell? (ad.add j)) : Seg w' ad xs :=
  fun j u hj => (hc j (List.getElem?_eq_some_iff.1 hj).1).trans (h j u hj)
theorem add_block (a : Addr) (j : Nat) : (a.add j).block = a.block := by unfold Addr.add; split <;> rfl
theorem Seg.of_block {w w' : World} {ad : Addr} {xs : List Value} (h : Seg w ad xs) (hb : w'.heap[ad.block]? = w.heap[ad.block]?) : Seg w' ad xs :=
  h.of_cells fun j _ => World.cell?_of_block (by rw [add_block]; exact hb)
theorem Seg.alloc {w : World} {ad : Addr} {xs : List Value} (h : Seg w ad xs) (hb : ad.block < w.heap.size) (o : Obj) : Seg (w.alloc o) ad xs :=
  h.of_block (Below.heap_alloc w o _ hb)

theorem one_bys (l : List UInt8) : ∀ u ∈ bys l, u.oneCell' = true := by
  intro u hu; simp only [bys, List.mem_map] at hu; obtain ⟨c, _, rfl⟩ := hu; rfl
theorem one_flat (L : List (List UInt8)) : ∀ u ∈ L.flatMap bys, u.oneCell' = true := by
  intro u hu; simp only [List.mem_flatMap] at hu; obtain ⟨l, _, h⟩ := hu; exact one_bys l u h
theorem one_wcells (x : Nat × List UInt8) : ∀ u ∈ wcells x, u.oneCell' = true := by
  intro u hu; simp only [wcells, List.mem_cons] at hu; rcases hu with rfl | h
  · rfl
  · exact one_bys _ u h
theorem one_wflat (L : List (Nat × List UInt8)) : ∀ u ∈ L.flatMap wcells, u.oneCell' = true := by
  intro u hu; simp only [List.mem_flatMap] at hu; obtain ⟨l, _, h⟩ := hu; exact one_wcells l u h

/-- A device in memory: the struct's block p, the two slices. -/
structure DevAt (w : World) (p : Nat) (vs vc : Value) (D : Dv) : Prop where
  blk : w.heap[p]? = some (.cells #[vs, vc, .int .i64 (D.plan : Int), .bool D.down, .int .i64 (D.calls : Int)] 67 (0, 0))
  safe : w.ownsRow 0 83 128 vs D.safe.length (D.safe.flatMap bys)
  cache : w.ownsRow 0 85 129 vc D.cache.length (D.cache.flatMap wcells)
  ne1 : vs.ownBlock ≠ some p
  ne2 : vc.ownBlock ≠ some p
  ne3 : vs.ownBlock ≠ vc.ownBlock
  lens : ∀ b ∈ D.safe, b.length = 128
  lenc : ∀ x ∈ D.cache, x.2.length = 128 ∧ x.1 < D.safe.length
  pos : 0 < D.safe.length
  most : D.safe.length ≤ 65536
  full : D.cache.length ≤ 256
  plan : D.plan ≤ 9223372036854775807

/-- A device's blocks. -/
def Foot (p : Nat) (vs vc : Value) (k : Nat) : Prop := k = p ∨ vs.ownBlock = some k ∨ vc.ownBlock = some k

theorem DevAt.safeForm {w : World} {p : Nat} {vs vc : Value} {D : Dv} (h : DevAt w p vs vc D) :
    ∃ g cap, vs = .slice (some ⟨g, 0, none⟩) D.safe.length cap ∧ g < w.heap.size := by
  obtain ⟨g, cap, h1, _, h2⟩ := h.safe.form h.pos
  exact ⟨g, cap, h1, h2⟩

theorem DevAt.cacheForm {w : World} {p : Nat} {vs vc : Value} {D : Dv} (h : DevAt w p vs vc D) :
    ∃ ao cap, vc = .slice ao D.cache.length cap ∧ (ao = none → D.cache.length = 0 ∧ cap = 0) ∧ (∀ a, ao = some a → ∃ g, a = ⟨g, 0, none⟩ ∧ g < w.heap.size) := by
  rcases h.cache.2 with ⟨h1, h2⟩ | ⟨g, cap, cur, h1, _, h3, _⟩
  · exact ⟨none, 0, by rw [h1, h2], fun _ => ⟨h2, rfl⟩, (fun a e => by cases e)⟩
  · exact ⟨some ⟨g, 0, none⟩, cap, h1, (fun e => by cases e), (fun a e => by cases e; exact ⟨g, rfl, (Array.getElem?_eq_some_iff.1 h3).1⟩)⟩

/-- the struct's cells, as the walk asks for them -/
theorem blk5 {w : World} {p : Nat} {c0 c1 c2 c3 c4 : Value} {t : Nat} (h : w.heap[p]? = some (.cells #[c0, c1, c2, c3, c4] t (0, 0))) :
    p < w.heap.size ∧ w.cell? ⟨p, 0, none⟩ = some c0 ∧ w.cell? ⟨p, 1, none⟩ = some c1 ∧ w.cell? ⟨p, 2, none⟩ = some c2 ∧ w.cell? ⟨p, 3, none⟩ = some c3 ∧ w.cell? ⟨p, 4, none⟩ = some c4 ∧
      w.frozen? ⟨p, 0, none⟩ = false ∧ w.frozen? ⟨p, 1, none⟩ = false ∧ w.frozen? ⟨p, 2, none⟩ = false ∧ w.frozen? ⟨p, 3, none⟩ = false ∧ w.frozen? ⟨p, 4, none⟩ = false := by
  refine ⟨(Array.getElem?_eq_some_iff.1 h).1, ?_, ?_, ?_, ?_, ?_, ?_, ?_, ?_, ?_, ?_⟩ <;> first | (rw [cell_of_row w p _ _ _ _ h]; rfl) | exact frozen_of_row w p _ _ _ h

/-- an owned row is kept where its block is not written -/
theorem own_fr {w w' : World} {S : Nat → Prop} {base : Nat} {e : TypeId} {size : Nat} {v : Value} {n : Nat} {xs : List Value}
    (h : w.ownsRow base e size v n xs) (hf : Fr S w w') (hn : ∀ k, v.ownBlock = some k → ¬ S k) : w'.ownsRow base e size v n xs := by
  refine ⟨h.1, ?_⟩
  rcases h.2 with hn' | ⟨g, cap, cur, rfl, hb, hgg, rest⟩
  · exact .inl hn'
  · refine .inr ⟨g, cap, cur, rfl, hb, ?_, rest⟩
    rw [hf.block g (Array.getElem?_eq_some_iff.1 hgg).1 (hn g rfl)]
    exact hgg

theorem own_base {w : World} {base base' : Nat} {e : TypeId} {size : Nat} {v : Value} {n : Nat} {xs : List Value} (h : w.ownsRow base e size v n xs) (hb : base' ≤ base) : w.ownsRow base' e size v n xs := by
  refine ⟨h.1, ?_⟩
  rcases h.2 with hn' | ⟨g, cap, cur, hv, hg, rest⟩
  · exact .inl hn'
  · exact .inr ⟨g, cap, cur, hv, Nat.le_trans hb hg, rest⟩

/-- the struct's three plain fields turn -/
theorem DevAt.put {w w' : World} {p : Nat} {vs vc : Value} {D : Dv} (h : DevAt w p vs vc D) (plan : Nat) (down : Bool) (calls : Nat) (hplan : plan ≤ 9223372036854775807)
    (hfr : Fr (fun k => k = p) w w') (hb : w'.heap[p]? = some (.cells #[vs, vc, .int .i64 (plan : Int), .bool down, .int .i64 (calls : Int)] 67 (0, 0))) :
    DevAt w' p vs vc { D with plan := plan, down := down, calls := calls } :=
  ⟨hb, own_fr h.safe hfr (fun k hk e => h.ne1 (by rw [hk, e])), own_fr h.cache hfr (fun k hk e => h.ne2 (by rw [hk, e])), h.ne1, h.ne2, h.ne3, h.lens, h.lenc, h.pos, h.most, h.full, hplan⟩

/-- a device that nobody touches stays -/
theorem DevAt.fr {w w' : World} {S : Nat → Prop} {p : Nat} {vs vc : Value} {D : Dv} (h : DevAt w p vs vc D) (hf : Fr S w w') (hn : ∀ k, Foot p vs vc k → ¬ S k) : DevAt w' p vs vc D :=
  ⟨(hf.block p (Array.getElem?_eq_some_iff.1 h.blk).1 (hn p (.inl rfl))).trans h.blk, own_fr h.safe hf (fun k hk => hn k (.inr (.inl hk))), own_fr h.cache hf (fun k hk => hn k (.inr (.inr hk))),
    h.ne1, h.ne2, h.ne3, h.lens, h.lenc, h.pos, h.most, h.full, h.plan⟩

theorem DevAt.foot_lt {w : World} {p : Nat} {vs vc : Value} {D : Dv} (h : DevAt w p vs vc D) {k : Nat} (hk : Foot p vs vc k) : k < w.heap.size := by
  rcases hk with rfl | hk | hk
  · exact (Array.getElem?_eq_some_iff.1 h.blk).1
  · exact (h.safe.lt k hk).2
  · exact (h.cache.lt k hk).2

/-- a store into a block known whole -/
theorem blk_set {w : World} {g i : Nat} {cs cs' : Array Value} {t : TypeId} {v : Value} (h : w.heap[g]? = some (.cells cs t (0, 0))) (e : cs.setIfInBounds i v = cs') :
    (w.setCell ⟨g, i, none⟩ v).heap[g]? = some (.cells cs' t (0, 0)) := by rw [heap_setCell_same w g i cs t v h, e]

end Go.Proofs.Ytbmankbbkemkcaa
