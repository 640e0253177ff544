/- BlockdevPlays: the document's device in memory. -/
import Derived.Test.YtbmankbbkemkcaaTwo
import Derived.Maps.OwnOps
import Derived.Maps.Views
import Derived.Deep.RegionLaw
namespace Go.Proofs.Ytbmankbbkemkcaa
open Go.RowKit Go.Shelf Go.Maps

/-- an element of the map reads as itself -/
def tokR (v : Value) : Option (DataW Value × List MemPlace) := some (.held v, [])
abbrev nilS : Value := .slice none 0 0
theorem keyed3 : Keyed Try.prog 3 := int_keyed Try.underlying3

/-- a map from sectors to slices -/
def MapIs (w : World) (b n : Nat) (F : Nat → Option Value) : Prop := ∃ D : DataW Value, w.ownsMap Try.prog 3 tokR b n D ∧ ∀ i : Nat, i < 65536 → D.atKey (.int .i64 (i : Int)) (.held nilS) = .held ((F i).getD nilS)

theorem wf_nat {i : Nat} (h : i < 65536) : (Lit.int .i64 (i : Int)).wf = true := WalkArith.wf_i64 (by omega)
theorem zero23 (w : World) : (zeroValue 23).run Try.prog w = .ok nilS w := by kernel_rfl

theorem MapIs.look {w : World} {b n : Nat} {F : Nat → Option Value} (h : MapIs w b n F) {i : Nat} (hi : i < 65536) : (Instr.lookup 54 (.map (some b)) (.int .i64 (i : Int)) false).run Try.prog w = .ok ((F i).getD nilS) w := by
  obtain ⟨D, hown, hat⟩ := h
  obtain ⟨v, ps, hrun, hv⟩ := hown.lookup keyed3 Try.underlying54 (zero23 w) (zd := .held nilS) (zp := []) rfl (keyOf_int_mk Try.underlying3 (wf_nat hi))
  rw [hat i hi] at hv
  unfold tokR at hv
  simp at hv
  rw [hrun, hv.1]

theorem MapIs.put {w : World} {b n : Nat} {F : Nat → Option Value} (h : MapIs w b n F) (hn : n < maxLen) {i : Nat} (hi : i < 65536) (v : Value) : ∃ w', (Instr.mapUpdate 54 (.map (some b)) (.int .i64 (i : Int)) v).run Try.prog w = .ok () w' ∧ MapIs w' b (n + 1) (fun j => if j = i then some v else F j) ∧ w.grownBy w' (some b) := by
  obtain ⟨D, hown, hat⟩ := h
  obtain ⟨w', hrun, hown', hg⟩ := hown.update keyed3 Try.underlying54 hn (keyOf_int_mk Try.underlying3 (wf_nat hi)) (val := v) (d := .held v) (ps := []) rfl
  refine ⟨w', hrun, ⟨_, hown', fun j hj => ?_⟩, hg⟩
  by_cases e : j = i
  · subst e
    show _ = DataW.held ((if j = j then some v else F j).getD nilS)
    rw [if_pos rfl, atKey_put_same hown.isMap (by trivial)]
    rfl
  · show _ = DataW.held ((if j = i then some v else F j).getD nilS)
    rw [if_neg e, atKey_put_other (fun e2 => by
      simp at e2; exact e (by omega))]
    exact hat j hj

theorem MapIs.kept {w w' : World} {b n : Nat} {F : Nat → Option Value} (h : MapIs w b n F) (hk : ∀ o, w.heap[b]? = some o → w'.heap[b]? = some o) : MapIs w' b n F := by
  obtain ⟨D, ⟨es, clock, hb, r⟩, hat⟩ := h
  exact ⟨D, ⟨es, clock, hk _ hb, r⟩, hat⟩
theorem MapIs.new (w : World) : MapIs (w.alloc (.map #[] 0)) w.heap.size 0 (fun _ => none) :=
  ⟨_, World.ownsMap_made w _ _ _, fun _ _ => rfl⟩

/-- what is of no device is kept -/
def notDev (o : Obj) : Prop := ∀ (c : Array Value) (t : TypeId) (f : Nat × Nat), o = Obj.cells c t f → t ≠ 67 ∧ t ≠ 83 ∧ t ≠ 85
def KO (w w' : World) : Prop := ∀ (k : Nat) (o : Obj), w.heap[k]? = some o → notDev o → w'.heap[k]? = some o
theorem KO.of_below {w w' : World} (h : Below w.heap.size w w') : KO w w' := fun k _ hk _ => (h.block k (Array.getElem?_eq_some_iff.1 hk).1).trans hk
theorem KO.refl (w : World) : KO w w := fun _ _ h _ => h
theorem KO.trans {a b c : World} (h : KO a b) (k : KO b c) : KO a c := fun i o hi hn => k i o (h i o hi hn) hn
theorem notDev_cells {c : Array Value} {t : TypeId} {f : Nat × Nat} (h1 : t ≠ 67) (h2 : t ≠ 83) (h3 : t ≠ 85) : notDev (.cells c t f) := fun _ _ _ e => by cases e; exact ⟨h1, h2, h3⟩
theorem notDev_map {es : Array MapEntry} {cl : Nat} : notDev (.map es cl) := fun _ _ _ e => by cases e
theorem KO.cells {w w' : World} (h : KO w w') {k : Nat} {c : Array Value} {t : TypeId} {f : Nat × Nat} (hk : w.heap[k]? = some (.cells c t f)) (h1 : t ≠ 67 := by decide) (h2 : t ≠ 83 := by decide) (h3 : t ≠ 85 := by decide) : w'.heap[k]? = some (.cells c t f) := h k _ hk (notDev_cells h1 h2 h3)
theorem KO.own {w w' : World} (h : KO w w') {B : Nat} {e : TypeId} {s : Nat} {v : Value} {n : Nat} {xs : List Value} (ho : w.ownsRow B e s v n xs) (h1 : e ≠ 67 := by decide) (h2 : e ≠ 83 := by decide) (h3 : e ≠ 85 := by decide) : w'.ownsRow B e s v n xs := by
  rcases ho with ⟨hl, he | ⟨g, cap, cur, e2, hb, hg, r⟩⟩
  · exact ⟨hl, .inl he⟩
  · exact ⟨hl, .inr ⟨g, cap, cur, e2, hb, h.cells hg h1 h2 h3, r⟩⟩

/-- 128 bytes in a row of the law's own -/
def Held (w₀ w : World) (v : Value) (b : List UInt8) : Prop := w.ownsRow w₀.heap.size 5 1 v 128 (bys b) ∧ b.length = 128
def rcells : List (Nat × List UInt8) → List Value → List Value
  | x :: L, v :: Vs => .int .i64 (x.1 : Int) :: v :: rcells L Vs
  | _, _ => []

structure RefAt (w₀ w : World) (r mb n : Nat) (vc : Value) (Vs : List Value) (F : Nat → Option Value) (D : Dv) : Prop where
  blk : w.heap[r]? = some (.cells #[.int .i64 (D.safe.length : Int), .map (some mb), vc, .int .i64 (D.plan : Int), .bool D.down, .int .i64 (D.calls : Int)] 57 (0, 0))
  map : MapIs w mb n F
  ent : ∀ (i : Nat) (b : List UInt8), D.safe[i]? = some b → (F i = none ∧ b = List.replicate 128 0) ∨ ∃ v, F i = some v ∧ Held w₀ w v b
  cache : w.ownsRow w₀.heap.size 59 2 vc D.cache.length (rcells D.cache Vs)
  lens : Vs.length = D.cache.length
  held : ∀ (k : Nat) (x : Nat × List UInt8) (v : Value), D.cache[k]? = some x → Vs[k]? = some v → Held w₀ w v x.2
  lr : w₀.heap.size ≤ r
  lm : w₀.heap.size ≤ mb

theorem RefAt.ko {w₀ w W : World} {r mb n : Nat} {vc : Value} {Vs : List Value} {F : Nat → Option Value} {D : Dv} (h : RefAt w₀ w r mb n vc Vs F D) (hk : KO w W) : RefAt w₀ W r mb n vc Vs F D := by
  refine ⟨hk.cells h.blk, ?_, fun i b hb => ?_, hk.own h.cache, h.lens, fun k x v hx hv => ⟨hk.own (h.held k x v hx hv).1, (h.held k x v hx hv).2⟩, h.lr, h.lm⟩
  · obtain ⟨Dm, ⟨es, clock, hb, rr⟩, hat⟩ := h.map
    exact ⟨Dm, ⟨es, clock, hk _ _ hb notDev_map, rr⟩, hat⟩
  · rcases h.ent i b hb with e | ⟨v, hv, ho⟩
    · exact .inl e
    · exact .inr ⟨v, hv, hk.own ho.1, ho.2⟩

theorem blk6 {w : World} {p : Nat} {c0 c1 c2 c3 c4 c5 : Value} {t : Nat} (h : w.heap[p]? = some (.cells #[c0, c1, c2, c3, c4, c5] t (0, 0))) :
    p < w.heap.size ∧ w.cell? ⟨p, 0, none⟩ = some c0 ∧ w.cell? ⟨p, 1, none⟩ = some c1 ∧ w.cell? ⟨p, 2, none⟩ = some c2 ∧ w.cell? ⟨p, 3, none⟩ = some c3 ∧ w.cell? ⟨p, 4, none⟩ = some c4 ∧ w.cell? ⟨p, 5, none⟩ = some c5 ∧ ∀ i, w.frozen? ⟨p, i, none⟩ = false := by
  refine ⟨(Array.getElem?_eq_some_iff.1 h).1, ?_, ?_, ?_, ?_, ?_, ?_, fun i => frozen_of_row w p _ _ _ h⟩ <;> (rw [cell_of_row w p _ _ _ _ h]; rfl)
end Go.Proofs.Ytbmankbbkemkcaa
