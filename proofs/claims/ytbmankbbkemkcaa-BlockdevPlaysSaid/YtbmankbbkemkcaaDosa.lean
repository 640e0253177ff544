/- BlockdevPlays: what is asked behind each call: Safe, Cached. -/
import Derived.Test.YtbmankbbkemkcaaDow
namespace Go.Proofs.Ytbmankbbkemkcaa
open Go.RowKit Go.Shelf Go.Maps

section
variable {w₀ w : World} {p q : Nat} {D E : Dv}

theorem safeO (h : Two w₀ w p q D E) {i : Nat} {b : List UInt8} (hb : D.safe[i]? = some b) : Calls Try.prog 24 #[.pointer (some ⟨p, 0, none⟩), .int .i64 (i : Int)] w fun e w' => ∃ ao cap, e = .returned (.tuple #[.slice ao b.length cap, .int .i64 0]) ∧ BytesV w' (.slice ao b.length cap) b ∧ Two w₀ w' p q D E ∧ Below w.heap.size w w' := by
  obtain ⟨vs, vc, us, uc, h1, h2, h3, h4, h5, h6⟩ := h
  refine (safe_any p vs vc D w h1 i b hb).mono ?_
  rintro e w' ⟨v, rfl, hN⟩
  obtain ⟨ao, cap, rfl⟩ := hN.bytesV.len
  exact ⟨ao, cap, rfl, hN.bytesV, Two.below ⟨vs, vc, us, uc, h1, h2, h3, h4, h5, h6⟩ hN.2.1, hN.2.1⟩

theorem safeBadO (h : Two w₀ w p q D E) {i : Int} (hi : i < 0 ∨ (D.safe.length : Int) ≤ i) : Calls Try.prog 24 #[.pointer (some ⟨p, 0, none⟩), .int .i64 i] w fun e w' => e = .returned (.tuple #[.slice none 0 0, .int .i64 121]) ∧ w = w' := by
  obtain ⟨vs, vc, us, uc, h1, _⟩ := h
  exact safe_bad p vs vc D w h1 i hi

theorem cachedO (h : Two w₀ w p q D E) : Calls Try.prog 23 #[.pointer (some ⟨p, 0, none⟩)] w fun e w' => ∃ ao cap, e = .returned (.slice ao D.cache.length cap) ∧ (∀ (k : Nat) (x : Nat × List UInt8), D.cache[k]? = some x → ∃ g, ao = some ⟨g, 0, none⟩ ∧ w'.cell? ⟨g, k, none⟩ = some (.int .i64 (x.1 : Int))) ∧ Two w₀ w' p q D E ∧ Below w.heap.size w w' := by
  obtain ⟨vs, vc, us, uc, h1, h2, h3, h4, h5, h6⟩ := h
  refine (cached_any p vs vc D w h1).mono ?_
  rintro e w' ⟨v, rfl, ho, hb⟩
  have hT := Two.below ⟨vs, vc, us, uc, h1, h2, h3, h4, h5, h6⟩ hb
  rcases ho.2 with ⟨e, e0⟩ | ⟨g, cap, cur, e, _⟩
  · subst e
    exact ⟨none, 0, by rw [e0], fun k x hx => by have := (List.getElem?_eq_some_iff.1 hx).1; omega, hT, hb⟩
  · refine ⟨some ⟨g, 0, none⟩, cap, by rw [e], fun k x hx => ⟨g, rfl, ?_⟩, hT, hb⟩
    rw [← addk]
    exact ho.cells (g := g) (by rw [e]; rfl) k _ (by simp [ints, hx])
end
end Go.Proofs.Ytbmankbbkemkcaa
