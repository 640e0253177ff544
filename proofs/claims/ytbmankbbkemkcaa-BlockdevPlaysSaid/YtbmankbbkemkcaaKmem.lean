/- BlockdevKeeps: the arrays 'safe' and 'all' in memory. -/
import Derived.Test.YtbmankbbkemkcaaTwo
import Derived.Test.YtbmankbbkemkcaaKlaw
import Derived.Deep.RegionHeld3
import Derived.Deep.RegionLaw
namespace Go.Proofs.Ytbmankbbkemkcaa
open Go.RowKit Go.Shelf

/-- rows of bytes as strings -/
abbrev str (b : List UInt8) : Value := .string ⟨b.toArray⟩
def strs (a : List (List UInt8)) : List Value := a.map str

theorem strs_len (a : List (List UInt8)) : (strs a).length = a.length := by simp [strs]
theorem one_strs (a : List (List UInt8)) : ∀ u ∈ strs a, u.oneCell' = true := by
  intro u hu; simp only [strs, List.mem_map] at hu; obtain ⟨c, _, rfl⟩ := hu; rfl

structure AllAt (w₀ w : World) (gs ga : Nat) (S : List (List UInt8)) (f : Nat → List (List UInt8)) (vs : List Value) : Prop where
  bs : w.heap[gs]? = some (.cells (strs S).toArray 37 (0, 0))
  ba : w.heap[ga]? = some (.cells vs.toArray 39 (0, 0))
  ls : w₀.heap.size ≤ gs
  la : w₀.heap.size ≤ ga
  lenS : S.length = 8
  len : vs.length = 8
  rows : ∀ (n : Nat) (v : Value), vs[n]? = some v → w.ownsRow w₀.heap.size 9 1 v (f n).length (strs (f n))
  apart : ∀ (i j : Nat) (v u : Value) (g : Nat), vs[i]? = some v → vs[j]? = some u → i ≠ j → v.ownBlock = some g → u.ownBlock ≠ some g

theorem own_kt {w W : World} {B : Nat} {e : TypeId} {s : Nat} {v : Value} {n : Nat} {xs : List Value} (h : w.ownsRow B e s v n xs) (h1 : e ≠ 67) (h2 : e ≠ 83) (h3 : e ≠ 85) (hk : KT w W) : W.ownsRow B e s v n xs := by
  rcases h with ⟨hl, he | ⟨g, cap, cur, e2, hb, hg, r⟩⟩
  · exact ⟨hl, .inl he⟩
  · exact ⟨hl, .inr ⟨g, cap, cur, e2, hb, hk _ _ _ _ hg h1 h2 h3, r⟩⟩

/-- what is of no device and of no such array is kept -/
def KC (w w' : World) : Prop := ∀ (k : Nat) (c : Array Value) (t : TypeId) (f : Nat × Nat), w.heap[k]? = some (Obj.cells c t f) → t ≠ 67 → t ≠ 83 → t ≠ 85 → t ≠ 9 → t ≠ 37 → t ≠ 39 → w'.heap[k]? = some (Obj.cells c t f)
theorem KT.kc {w w' : World} (h : KT w w') : KC w w' := fun k c t f hk h1 h2 h3 _ _ _ => h k c t f hk h1 h2 h3
theorem KC.refl (w : World) : KC w w := fun _ _ _ _ h _ _ _ _ _ _ => h
theorem KC.trans {a b c : World} (h : KC a b) (k : KC b c) : KC a c := fun i x t f hi h1 h2 h3 h4 h5 h6 => k i x t f (h i x t f hi h1 h2 h3 h4 h5 h6) h1 h2 h3 h4 h5 h6

section
variable {w₀ w : World} {gs ga : Nat} {S : List (List UInt8)} {f : Nat → List (List UInt8)} {vs : List Value}

theorem AllAt.kt {W : World} (h : AllAt w₀ w gs ga S f vs) (hk : KT w W) : AllAt w₀ W gs ga S f vs :=
  ⟨hk _ _ _ _ h.bs (by decide) (by decide) (by decide), hk _ _ _ _ h.ba (by decide) (by decide) (by decide), h.ls, h.la, h.lenS, h.len, fun n v hn => own_kt (h.rows n v hn) (by decide) (by decide) (by decide) hk, h.apart⟩
theorem AllAt.below {W : World} (h : AllAt w₀ w gs ga S f vs) (hb : Below w.heap.size w W) : AllAt w₀ W gs ga S f vs := h.kt (.of_below hb)

theorem AllAt.congr (h : AllAt w₀ w gs ga S f vs) {F : Nat → List (List UInt8)} (hF : ∀ m, m < 8 → F m = f m) : AllAt w₀ w gs ga S F vs :=
  ⟨h.bs, h.ba, h.ls, h.la, h.lenS, h.len, fun n v hn => by rw [hF n (by have := (List.getElem?_eq_some_iff.1 hn).1; have := h.len; omega)]; exact h.rows n v hn, h.apart⟩
theorem AllAt.keep {W : World} (h : AllAt w₀ w gs ga S f vs) (hk : ∀ (k : Nat) (c : Array Value) (t : TypeId) (z : Nat × Nat), w.heap[k]? = some (Obj.cells c t z) → t ≠ 5 → t ≠ 25 → W.heap[k]? = some (Obj.cells c t z)) : AllAt w₀ W gs ga S f vs := by
  refine ⟨hk _ _ _ _ h.bs (by decide) (by decide), hk _ _ _ _ h.ba (by decide) (by decide), h.ls, h.la, h.lenS, h.len, fun n v hn => ?_, h.apart⟩
  rcases h.rows n v hn with ⟨hl, he | ⟨g, cap, cur, e2, hb, hg, r⟩⟩
  · exact ⟨hl, .inl he⟩
  · exact ⟨hl, .inr ⟨g, cap, cur, e2, hb, hk _ _ _ _ hg (by decide) (by decide), r⟩⟩
/-- what the walk reads -/
theorem AllAt.safe (h : AllAt w₀ w gs ga S f vs) {n : Nat} {b : List UInt8} (hn : S[n]? = some b) : w.cell? ⟨gs, n, none⟩ = some (str b) := by
  rw [cell_of_row w gs n _ _ _ h.bs]; simp [strs, hn]
theorem AllAt.row (h : AllAt w₀ w gs ga S f vs) {n : Nat} {v : Value} (hn : vs[n]? = some v) : w.cell? ⟨ga, n, none⟩ = some v := by
  rw [cell_of_row w ga n _ _ _ h.ba]; simpa using hn
theorem AllAt.frs (h : AllAt w₀ w gs ga S f vs) (n : Nat) : w.frozen? ⟨gs, n, none⟩ = false := frozen_of_row w gs n _ _ h.bs
theorem AllAt.fra (h : AllAt w₀ w gs ga S f vs) (n : Nat) : w.frozen? ⟨ga, n, none⟩ = false := frozen_of_row w ga n _ _ h.ba
theorem AllAt.form (h : AllAt w₀ w gs ga S f vs) {n : Nat} {v : Value} (hn : vs[n]? = some v) (hp : 0 < (f n).length) : ∃ g cap, v = .slice (some ⟨g, 0, none⟩) (f n).length cap ∧ ∀ j b, (f n)[j]? = some b → w.cell? ⟨g, j, none⟩ = some (str b) := by
  obtain ⟨g, cap, rfl, _, _⟩ := (h.rows n v hn).form hp
  refine ⟨g, cap, rfl, fun j b hj => ?_⟩
  have := (h.rows n _ hn).cells (g := g) rfl j (str b) (by simp [strs, hj])
  rwa [show (⟨g, 0, none⟩ : Addr).add j = ⟨g, j, none⟩ from by simp [Addr.add]; exact fun h => h.symm] at this

theorem AllAt.own (h : AllAt w₀ w gs ga S f vs) {n : Nat} {v : Value} (hv : vs[n]? = some v) {y : List (List UInt8)} {m : Nat} (hy : f n = y) (hm : y.length = m) : w.ownsRow w₀.heap.size 9 1 v m (strs y) := by
  have := h.rows n v hv
  rw [hy, hm] at this
  exact this
theorem AllAt.new (w₀ w : World) (hB : w₀.heap.size ≤ w.heap.size) : AllAt w₀ ((w.alloc (.cells #[str [], str [], str [], str [], str [], str [], str [], str []] 37)).alloc (.cells #[.slice none 0 0, .slice none 0 0, .slice none 0 0, .slice none 0 0, .slice none 0 0, .slice none 0 0, .slice none 0 0, .slice none 0 0] 39))
    w.heap.size (w.heap.size + 1) (List.replicate 8 []) (fun _ => []) (List.replicate 8 (.slice none 0 0)) := by
  refine ⟨?_, ?_, hB, by omega, rfl, rfl, ?_, ?_⟩
  · rw [Below.heap_alloc _ _ _ (by simp)]
    exact Array.getElem?_push_size
  · have : (w.alloc (.cells #[str [], str [], str [], str [], str [], str [], str [], str []] 37)).heap.size = w.heap.size + 1 := by simp
    rw [← this]
    exact Array.getElem?_push_size
  · intro n v hn
    have : v = .slice none 0 0 := List.eq_of_mem_replicate (List.mem_of_getElem? hn)
    subst this
    exact ⟨rfl, .inl ⟨rfl, rfl⟩⟩
  · intro i j v u g hi _ _ e
    have : v = .slice none 0 0 := List.eq_of_mem_replicate (List.mem_of_getElem? hi)
    subst this
    simp [Value.ownBlock] at e

/-- safe[n] = .. -/
theorem AllAt.set (h : AllAt w₀ w gs ga S f vs) (n : Nat) (b : List UInt8) : AllAt w₀ (w.setCell ⟨gs, n, none⟩ (str b)) gs ga (S.set n b) f vs := by
  have hne : ga ≠ gs := by
    intro e
    have h1 := h.bs; have h2 := h.ba
    rw [e] at h2; rw [h1] at h2; simp at h2
  have hf : Fr (fun k => k = gs) w (w.setCell ⟨gs, n, none⟩ (str b)) := Fr.one w gs n _
  refine ⟨?_, ?_, h.ls, h.la, by simp [h.lenS], h.len, fun m v hm => ?_, h.apart⟩
  · refine blk_set h.bs ?_
    simp [strs]
  · exact (hf.block ga (Array.getElem?_eq_some_iff.1 h.ba).1 hne).trans h.ba
  · refine own_fr (h.rows m v hm) hf fun k hk e => ?_
    subst e
    rcases (h.rows m v hm).2 with ⟨e2, _⟩ | ⟨g, cap, cur, e2, _, hg', _⟩
    · rw [e2] at hk; simp [Value.ownBlock] at hk
    · rw [e2] at hk; simp [Value.ownBlock] at hk; subst hk; rw [h.bs] at hg'; simp at hg'

theorem AllAt.set_kc (h : AllAt w₀ w gs ga S f vs) (n : Nat) (v : Value) : KC w (w.setCell ⟨gs, n, none⟩ v) ∧ Fr (Loose w₀ w) w (w.setCell ⟨gs, n, none⟩ v) :=
  ⟨fun k c t g hk _ _ _ _ h1 _ => ((Fr.one w gs n v).block k (Array.getElem?_eq_some_iff.1 hk).1 (fun e => by
    subst e; rw [h.bs] at hk; simp at hk; exact h1 hk.2.1.symm)).trans hk, fr_set h.bs h.ls (by decide) (by decide) (by decide) v⟩

theorem AllAt.type9 (h : AllAt w₀ w gs ga S f vs) {n : Nat} {v : Value} (hv : vs[n]? = some v) {k : Nat} (hk : v.ownBlock = some k) : ∃ c, w.heap[k]? = some (.cells c 9 (0, 0)) := by
  rcases (h.rows n v hv).2 with ⟨e2, _⟩ | ⟨g, cap, cur, e2, _, hg', _⟩
  · rw [e2] at hk; simp [Value.ownBlock] at hk
  · rw [e2] at hk; simp [Value.ownBlock] at hk; subst hk; exact ⟨_, hg'⟩

theorem AllAt.na (h : AllAt w₀ w gs ga S f vs) {n : Nat} {v : Value} (hv : vs[n]? = some v) : v.ownBlock ≠ some ga := fun e => by obtain ⟨c, hc⟩ := h.type9 hv e; rw [h.ba] at hc; simp at hc
theorem AllAt.ns (h : AllAt w₀ w gs ga S f vs) {n : Nat} {v : Value} (hv : vs[n]? = some v) : v.ownBlock ≠ some gs := fun e => by obtain ⟨c, hc⟩ := h.type9 hv e; rw [h.bs] at hc; simp at hc
theorem AllAt.ne (h : AllAt w₀ w gs ga S f vs) : gs ≠ ga := by
  intro e
  have h1 := h.bs; have h2 := h.ba
  rw [← e, h1] at h2; simp at h2
theorem AllAt.lga (h : AllAt w₀ w gs ga S f vs) : ga < w.heap.size := (Array.getElem?_eq_some_iff.1 h.ba).1
theorem AllAt.lgs (h : AllAt w₀ w gs ga S f vs) : gs < w.heap.size := (Array.getElem?_eq_some_iff.1 h.bs).1

/-- all[n] = append(all[n], ..) -/
theorem AllAt.app (h : AllAt w₀ w gs ga S f vs) {n : Nat} {v : Value} (hv : vs[n]? = some v) {W : World} {g cap : Nat} {b : List UInt8}
    {y : List (List UInt8)} {m : Nat} (hy : f n = y) (hm : y.length = m) (hown : W.ownsRow w₀.heap.size 9 1 (.slice (some ⟨g, 0, none⟩) (m + 1) cap) (m + 1) (strs y ++ [str b])) (hgrow : w.grownBy W v.ownBlock) (hat : v.ownBlock = some g ∨ g = w.heap.size) {F : Nat → List (List UInt8)} (hF : ∀ m, F m = if m = n then y ++ [b] else f m) :
    (∃ us, AllAt w₀ (W.setCell ⟨ga, n, none⟩ (.slice (some ⟨g, 0, none⟩) (m + 1) cap)) gs ga S F us) ∧ Fr (Loose w₀ w) w (W.setCell ⟨ga, n, none⟩ (.slice (some ⟨g, 0, none⟩) (m + 1) cap)) ∧ KC w (W.setCell ⟨ga, n, none⟩ (.slice (some ⟨g, 0, none⟩) (m + 1) cap)) := by
  have hga : v.ownBlock ≠ some ga := fun e => by obtain ⟨c, hc⟩ := h.type9 hv e; rw [h.ba] at hc; simp at hc
  have hgs : v.ownBlock ≠ some gs := fun e => by obtain ⟨c, hc⟩ := h.type9 hv e; rw [h.bs] at hc; simp at hc
  have lga := (Array.getElem?_eq_some_iff.1 h.ba).1
  have hne : gs ≠ ga := by
    intro e
    have h1 := h.bs; have h2 := h.ba
    rw [← e, h1] at h2; simp at h2
  have Wa : W.heap[ga]? = some (.cells vs.toArray 39 (0, 0)) := (hgrow.block ga lga (Ne.symm hga)).trans h.ba
  have Ws : W.heap[gs]? = some (.cells (strs S).toArray 37 (0, 0)) := (hgrow.block gs (Array.getElem?_eq_some_iff.1 h.bs).1 (Ne.symm hgs)).trans h.bs
  have hf : Fr (fun k => k = ga) W (W.setCell ⟨ga, n, none⟩ (.slice (some ⟨g, 0, none⟩) (m + 1) cap)) := Fr.one W ga n _
  have keep : ∀ {u : Value} {z : Nat} {xs : List Value}, W.ownsRow w₀.heap.size 9 1 u z xs → (W.setCell ⟨ga, n, none⟩ (.slice (some ⟨g, 0, none⟩) (m + 1) cap)).ownsRow w₀.heap.size 9 1 u z xs := by
    intro u z xs hu
    refine own_fr hu hf fun k hk e => ?_
    subst e
    rcases hu.2 with ⟨e2, _⟩ | ⟨g, cap, cur, e2, _, hg', _⟩
    · rw [e2] at hk; simp [Value.ownBlock] at hk
    · rw [e2] at hk; simp [Value.ownBlock] at hk; subst hk; rw [Wa] at hg'; simp at hg'
  refine ⟨⟨vs.set n (.slice (some ⟨g, 0, none⟩) (m + 1) cap), ?_, ?_, h.ls, h.la, h.lenS, by simp [h.len], ?_, ?_⟩, ?_, ?_⟩
  · exact (hf.block gs (Array.getElem?_eq_some_iff.1 Ws).1 hne).trans Ws
  · refine blk_set Wa ?_
    simp
  · intro k u hk
    rw [hF k]
    by_cases e : k = n
    · subst e
      rw [if_pos rfl]
      have : u = .slice (some ⟨g, 0, none⟩) (m + 1) cap := by
        have hl := (List.getElem?_eq_some_iff.1 hv).1
        rw [List.getElem?_set_self hl] at hk
        exact (Option.some.inj hk).symm
      subst this
      have := keep hown
      rw [List.length_append, List.length_singleton, hm, show strs (y ++ [b]) = strs y ++ [str b] by simp [strs]]
      exact this
    · rw [if_neg e]
      rw [List.getElem?_set_ne (Ne.symm e)] at hk
      refine keep ((h.rows k u hk).kept hgrow ?_)
      cases hu : u.ownBlock with
      | none => exact .inl rfl
      | some z => exact .inr fun e2 => h.apart k n u v z hk hv e hu e2.symm
  · have hl := (List.getElem?_eq_some_iff.1 hv).1
    have lt : ∀ (m : Nat) (u : Value), vs[m]? = some u → u.ownBlock ≠ some w.heap.size := fun m u hm e => by
      obtain ⟨c, hc⟩ := h.type9 hm e
      have := (Array.getElem?_eq_some_iff.1 hc).1
      omega
    intro i j a u k hi hj hij ha
    by_cases ei : i = n
    · subst ei
      rw [List.getElem?_set_self hl] at hi
      rw [List.getElem?_set_ne hij] at hj
      obtain rfl := Option.some.inj hi
      simp [Value.ownBlock] at ha
      subst ha
      rcases hat with e | rfl
      · exact h.apart i j v u g hv hj hij e
      · exact lt j u hj
    · rw [List.getElem?_set_ne (Ne.symm ei)] at hi
      by_cases ej : j = n
      · subst ej
        rw [List.getElem?_set_self hl] at hj
        obtain rfl := Option.some.inj hj
        intro e
        simp [Value.ownBlock] at e
        subst e
        rcases hat with e | rfl
        · exact h.apart i j a v g hi hv hij ha e
        · exact lt i a hi ha
      · rw [List.getElem?_set_ne (Ne.symm ej)] at hj
        exact h.apart i j a u k hi hj hij ha
  · exact (fr_grown (h.rows n v hv) (Nat.le_refl _) (by decide) (by decide) (by decide) hgrow).setCell (.inl ⟨h.la, _, _, _, h.ba, by decide, by decide, by decide⟩) _
  · intro k c t z hk _ _ _ h9 _ h39
    have h1 : W.heap[k]? = some (.cells c t z) := (hgrow.block k (Array.getElem?_eq_some_iff.1 hk).1 (fun e => by
      obtain ⟨c', hc⟩ := h.type9 hv e.symm
      rw [hc] at hk; simp at hk; exact h9 hk.2.1.symm)).trans hk
    exact (hf.block k (Array.getElem?_eq_some_iff.1 h1).1 (fun e => by
      subst e; rw [Wa] at h1; simp at h1; exact h39 h1.2.1.symm)).trans h1

theorem own5_ne {X : World} {b : Nat} {v : Value} {n : Nat} {xs : List Value} {B : Nat} {cs : Array Value} (hown : X.ownsRow b 5 1 v n xs) (hB : X.heap[B]? = some (.cells cs 25 (0, 0))) : v.ownBlock ≠ some B := fun hk => by
  rcases hown.2 with ⟨e2, _⟩ | ⟨g, cap, cur, e2, _, hg', _⟩
  · rw [e2] at hk; simp [Value.ownBlock] at hk
  · rw [e2] at hk; simp [Value.ownBlock] at hk; subst hk; rw [hB] at hg'; simp at hg'

theorem BytesV.of_own {w : World} {b n : Nat} {v : Value} {bs : List UInt8} (h : w.ownsRow b 5 1 v n (bys bs)) (hn : bs.length = n) : BytesV w v bs := by
  subst hn
  rcases h.2 with ⟨e, e0⟩ | ⟨g, cap, cur, e, _, hg, _⟩
  · subst e; exact .inr ⟨rfl, List.eq_nil_of_length_eq_zero e0⟩
  · subst e
    exact .inl ⟨⟨g, 0, none⟩, cap, rfl, .inr (Array.getElem?_eq_some_iff.1 hg).1, fun j u hj => h.cells (g := g) rfl j u hj⟩
theorem own5_row {w : World} {b n cap : Nat} {ao : Option Addr} {xs : List Value} (h : w.ownsRow b 5 1 (.slice ao n cap) n xs) {a : Addr} (ha : ao = some a) : ∃ cs f, w.heap[a.block]? = some (.cells cs 5 f) := by
  subst ha
  rcases h.2 with ⟨e, _⟩ | ⟨g, cap, cur, e, _, hg, _⟩
  · cases e
  · cases e; exact ⟨_, _, hg⟩

/-- full.Keep = append(full.Keep, ..) -/
theorem app5 {w₀ X W : World} {v : Value} {n : Nat} {xs : List Value} {B : Nat} {cs cs' : Array Value} {u : Value} (hown : X.ownsRow w₀.heap.size 5 1 v n xs) (hgrow : X.grownBy W v.ownBlock) (hB : X.heap[B]? = some (.cells cs 25 (0, 0))) (hlB : w₀.heap.size ≤ B) (he : cs.setIfInBounds 0 u = cs') :
    (W.setCell ⟨B, 0, none⟩ u).heap[B]? = some (.cells cs' 25 (0, 0)) ∧ Fr (Loose w₀ X) X (W.setCell ⟨B, 0, none⟩ u) ∧ (∀ (k : Nat) (c : Array Value) (t : TypeId) (z : Nat × Nat), X.heap[k]? = some (Obj.cells c t z) → t ≠ 5 → k ≠ B → (W.setCell ⟨B, 0, none⟩ u).heap[k]? = some (Obj.cells c t z)) ∧ (∀ v' n' xs', W.ownsRow w₀.heap.size 5 1 v' n' xs' → (W.setCell ⟨B, 0, none⟩ u).ownsRow w₀.heap.size 5 1 v' n' xs') := by
  have ty : ∀ k, v.ownBlock = some k → ∃ c, X.heap[k]? = some (.cells c 5 (0, 0)) := fun k hk => by
    rcases hown.2 with ⟨e2, _⟩ | ⟨g, cap, cur, e2, _, hg', _⟩
    · rw [e2] at hk; simp [Value.ownBlock] at hk
    · rw [e2] at hk; simp [Value.ownBlock] at hk; subst hk; exact ⟨_, hg'⟩
  have hBW : W.heap[B]? = some (.cells cs 25 (0, 0)) := (hgrow.block B (Array.getElem?_eq_some_iff.1 hB).1 (fun e => by obtain ⟨c, hc⟩ := ty B e.symm; rw [hB] at hc; simp at hc)).trans hB
  have hf : Fr (fun k => k = B) W (W.setCell ⟨B, 0, none⟩ u) := Fr.one W B 0 _
  refine ⟨blk_set hBW he, (fr_grown hown (Nat.le_refl _) (by decide) (by decide) (by decide) hgrow).setCell (.inl ⟨hlB, _, _, _, hB, by decide, by decide, by decide⟩) _, fun k c t z hk h5 hne => ?_, fun v' n' xs' h => own_fr h hf fun k hk e => ?_⟩
  · have h1 : W.heap[k]? = some (.cells c t z) := (hgrow.block k (Array.getElem?_eq_some_iff.1 hk).1 (fun e => by obtain ⟨c', hc⟩ := ty k e.symm; rw [hc] at hk; simp at hk; exact h5 hk.2.1.symm)).trans hk
    exact (hf.block k (Array.getElem?_eq_some_iff.1 h1).1 hne).trans h1
  · subst e
    rcases h.2 with ⟨e2, _⟩ | ⟨g, cap, cur, e2, _, hg', _⟩
    · rw [e2] at hk; simp [Value.ownBlock] at hk
    · rw [e2] at hk; simp [Value.ownBlock] at hk; subst hk; rw [hBW] at hg'; simp at hg'
end
end Go.Proofs.Ytbmankbbkemkcaa
