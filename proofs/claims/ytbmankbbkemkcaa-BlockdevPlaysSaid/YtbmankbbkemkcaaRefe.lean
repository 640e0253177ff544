/- The document's device: Flush. -/
import Derived.Test.YtbmankbbkemkcaaRefd
namespace Go.Proofs.Ytbmankbbkemkcaa
open Go.RowKit Go.Shelf Go.Maps

section
variable {w₀ w : World} {r mb n : Nat} {vc : Value} {Vs : List Value} {F : Nat → Option Value} {D : Dv}

/-- the map turns -/
theorem RefAt.store (h : RefAt w₀ w r mb n vc Vs F D) {W : World} {i : Nat} {v : Value} {b : List UInt8} (hm : MapIs W mb (n + 1) (fun j => if j = i then some v else F j)) (hg : w.grownBy W (some mb)) (hh : Held w₀ w v b) : RefAt w₀ W r mb (n + 1) vc Vs (fun j => if j = i then some v else F j) { D with safe := D.safe.set i b } ∧ Fr (fun k => k = mb) w W := by
  have hf : Fr (fun k => k = mb) w W := (Fr.refl _ w).grown hg (fun k hk => .inl (by cases hk; rfl))
  have cells : ∀ {k : Nat} {c : Array Value} {t : TypeId} {f : Nat × Nat}, w.heap[k]? = some (.cells c t f) → W.heap[k]? = some (.cells c t f) := fun hk => (hf.block _ (Array.getElem?_eq_some_iff.1 hk).1 (fun e => by
    obtain ⟨es, cl, hm⟩ := h.mapBlk
    rw [e, hm] at hk; cases hk)).trans hk
  have own : ∀ {e : TypeId} {s : Nat} {v : Value} {m : Nat} {xs : List Value}, w.ownsRow w₀.heap.size e s v m xs → W.ownsRow w₀.heap.size e s v m xs := fun ho => by
    rcases ho with ⟨hl, he | ⟨g, cap, cur, e2, hb', hg, rr⟩⟩
    · exact ⟨hl, .inl he⟩
    · exact ⟨hl, .inr ⟨g, cap, cur, e2, hb', cells hg, rr⟩⟩
  refine ⟨⟨by have := cells h.blk; simpa using this, hm, fun j b' hj => ?_, own h.cache, h.lens, fun k x v hx hv => ⟨own (h.held k x v hx hv).1, (h.held k x v hx hv).2⟩, h.lr, h.lm⟩, hf⟩
  by_cases e : j = i
  · subst e
    have hlt : j < D.safe.length := by
      have := (List.getElem?_eq_some_iff.1 hj).1
      simpa using this
    have hj' : (D.safe.set j b)[j]? = some b' := hj
    rw [List.getElem?_set_self hlt] at hj'
    obtain rfl := Option.some.inj hj'
    exact .inr ⟨v, by simp, own hh.1, hh.2⟩
  · have hj' : (D.safe.set i b)[j]? = some b' := hj
    rw [List.getElem?_set_ne (Ne.symm e)] at hj'
    rcases h.ent j b' hj' with e1 | ⟨u, hu, ho⟩
    · exact .inl ⟨by simp [e, e1.1], e1.2⟩
    · exact .inr ⟨u, by simp [e, hu], own ho.1, ho.2⟩

/-- the cache is struck -/
theorem RefAt.strike (h : RefAt w₀ w r mb n vc Vs F D) : RefAt w₀ (w.setCell ⟨r, 2, none⟩ nilS) r mb n nilS [] F { D with cache := [] } ∧ Fr (fun k => k = r) w (w.setCell ⟨r, 2, none⟩ nilS) := by
  have hf : Fr (fun k => k = r) w (w.setCell ⟨r, 2, none⟩ nilS) := Fr.one w r 2 nilS
  have own : ∀ {e : TypeId} {s : Nat} {v : Value} {m : Nat} {xs : List Value}, e ≠ 57 → w.ownsRow w₀.heap.size e s v m xs → (w.setCell ⟨r, 2, none⟩ nilS).ownsRow w₀.heap.size e s v m xs := fun he ho => own_fr ho hf (fun k hk e2 => by
    subst e2
    rcases ho.2 with ⟨e3, _⟩ | ⟨g, cap, cur, e3, _, hg, _⟩
    · rw [e3] at hk; simp [Value.ownBlock] at hk
    · rw [e3] at hk; simp [Value.ownBlock] at hk; subst hk; rw [h.blk] at hg; simp at hg; exact he hg.2.symm)
  refine ⟨⟨blk_set h.blk rfl, h.map.kept (fun o ho => (hf.block mb (Array.getElem?_eq_some_iff.1 ho).1 (fun e => ?_)).trans ho), fun i b hi => ?_, ⟨rfl, .inl ⟨rfl, rfl⟩⟩, rfl, (fun k x v hx _ => by cases hx), h.lr, h.lm⟩, hf⟩
  · obtain ⟨es, cl, hm⟩ := h.mapBlk
    rw [e, h.blk] at hm; cases hm
  · rcases h.ent i b hi with e | ⟨v, hv, ho⟩
    · exact .inl e
    · exact .inr ⟨v, hv, own (by decide) ho.1, ho.2⟩
end
end Go.Proofs.Ytbmankbbkemkcaa
