/- BlockdevKeeps: the plain law. -/
import Derived.Test.YtbmankbbkemkcaaLaw
namespace Go.Proofs.Ytbmankbbkemkcaa

theorem snoc_ind {α : Type} {P : List α → Prop} (h0 : P []) (h1 : ∀ L x, P L → P (L ++ [x])) (L : List α) : P L := by
  have : ∀ M : List α, P M.reverse := by
    intro M
    induction M with
    | nil => exact h0
    | cons x M ih => rw [List.reverse_cons]; exact h1 _ _ ih
  have := this L.reverse
  rwa [List.reverse_reverse] at this

/-- all that a sector may be: what was safe, and its writes -/
def hist (S : List (List UInt8)) (L : List (Nat × List UInt8)) (n : Nat) : List (List UInt8) := S.getD n [] :: (L.filter fun x => x.1 == n).map (·.2)

theorem hist_snoc (S : List (List UInt8)) (L : List (Nat × List UInt8)) (x : Nat × List UInt8) (n : Nat) : hist S (L ++ [x]) n = hist S L n ++ (if x.1 = n then [x.2] else []) := by
  unfold hist
  rw [List.filter_append, List.map_append, List.cons_append]
  by_cases h : x.1 = n <;> simp [h]
theorem hist_len (S : List (List UInt8)) (L : List (Nat × List UInt8)) (n : Nat) : (hist S L n).length ≤ L.length + 1 := by
  unfold hist
  rw [List.length_cons, List.length_map]
  have := List.length_filter_le (fun x : Nat × List UInt8 => x.1 == n) L
  omega
theorem hist_pos (S : List (List UInt8)) (L : List (Nat × List UInt8)) (n : Nat) : 0 < (hist S L n).length := by unfold hist; simp

/-- what is whole is the last -/
theorem whole_last (S : List (List UInt8)) (L : List (Nat × List UInt8)) (hL : ∀ x ∈ L, x.1 < S.length) (n : Nat) : (hist S L n)[(hist S L n).length - 1]? = some ((L.foldl put1 S).getD n []) := by
  induction L using snoc_ind with
  | h0 => simp [hist]
  | h1 L x ih =>
    have ih := ih fun y hy => hL y (by simp [hy])
    have hx := hL x (by simp)
    rw [hist_snoc, List.foldl_append]
    show _ = some ((put1 (L.foldl put1 S) x).getD n [])
    unfold put1 at ih ⊢
    by_cases h : x.1 = n
    · subst h
      rw [if_pos rfl]
      have hl : x.1 < (L.foldl (fun s y => s.set y.1 y.2) S).length := by
        have := fold_len L S
        unfold put1 at this
        rw [this]; exact hx
      simp [hl]
    · rw [if_neg h, List.append_nil, ih]
      simp [h]

theorem put2_full {s : List (List UInt8)} {x : Nat × List UInt8} (hs : ∀ b ∈ s, b.length = 128) (h1 : x.2.length = 128) (h3 : x.1 < s.length) : put2 s (x, 128) = s.set x.1 x.2 := by
  unfold put2
  have : (s.getD x.1 []).length = 128 := hs _ (by simp [h3])
  show s.set x.1 (x.2.take 128 ++ (s.getD x.1 []).drop 128) = _
  rw [List.take_of_length_le (by omega), List.drop_eq_nil_of_le (by omega), List.append_nil]

theorem lens_comes (c : Cr) (L : List (Nat × List UInt8)) (S : List (List UInt8)) (hS : ∀ b ∈ S, b.length = 128) (hL : ∀ x ∈ L, x.2.length = 128 ∧ x.1 < S.length) : ∀ b ∈ (c.comesFrom 0 L).foldl put2 S, b.length = 128 := by
  induction L using snoc_ind with
  | h0 => exact hS
  | h1 L x ih =>
    have ih := ih fun y hy => hL y (by simp [hy])
    obtain ⟨h1, h2⟩ := hL x (by simp)
    rw [Cr.comes_snoc, List.foldl_append]
    rcases hm : c.many (0 + L.length) with _ | m
    · exact ih
    · exact put2_lens ih h1 (Cr.many_le hm) (by rw [fold2_length]; exact h2)

/-- a crash that keeps all and tears none -/
theorem comes_all (c : Cr) (ht : c.torn < 0) (N : Nat) (hb : ∀ k, k < N → c.bit k = true) (L : List (Nat × List UInt8)) (hN : L.length ≤ N) (S : List (List UInt8)) (hS : ∀ b ∈ S, b.length = 128) (hL : ∀ x ∈ L, x.2.length = 128 ∧ x.1 < S.length) : (c.comesFrom 0 L).foldl put2 S = L.foldl put1 S := by
  induction L using snoc_ind with
  | h0 => rfl
  | h1 L x ih =>
    have hN' : L.length + 1 ≤ N := by simpa using hN
    have ih := ih (by omega) fun y hy => hL y (by simp [hy])
    have hl := lens_comes c L S hS fun y hy => hL y (by simp [hy])
    obtain ⟨h1, h2⟩ := hL x (by simp)
    have hm : c.many (0 + L.length) = some 128 := by
      unfold Cr.many
      rw [if_neg (by omega), hb _ (by omega), if_pos rfl]
    rw [Cr.comes_snoc, List.foldl_append, List.foldl_append, hm]
    show put2 _ (x, 128) = put1 _ x
    rw [put2_full hl h1 (by rw [fold2_length]; exact h2), ih]
    rfl

theorem bit255 (r k : Nat) (h : k / 8 < r) (t a : Int) : (⟨List.replicate r 255, t, a⟩ : Cr).bit k = true := by
  unfold Cr.bit
  show (match (List.replicate r (255 : UInt8))[k / 8]? with | none => false | some b => !(bits .and .u8 ((b.toNat : Int) / 2 ^ (k % 8)) 1 == 0)) = true
  rw [List.getElem?_replicate, if_pos h]
  have h8 : ∀ m : Fin 8, (!(bits .and .u8 (((255 : UInt8).toNat : Int) / 2 ^ m.1) 1 == 0)) = true := by decide
  exact h8 ⟨k % 8, Nat.mod_lt _ (by omega)⟩

/-- a sector that was not torn is one of its history -/
theorem kept (c : Cr) (L : List (Nat × List UInt8)) (S : List (List UInt8)) (hS : ∀ b ∈ S, b.length = 128) (hL : ∀ x ∈ L, x.2.length = 128 ∧ x.1 < S.length) (n : Nat) (hn : ∀ (k : Nat) (x : Nat × List UInt8), L[k]? = some x → (k : Int) = c.torn → x.1 ≠ n) : ((c.comesFrom 0 L).foldl put2 S).getD n [] ∈ hist S L n := by
  induction L using snoc_ind with
  | h0 => simp [hist, Cr.comesFrom]
  | h1 L x ih =>
    have hl := lens_comes c L S hS fun y hy => hL y (by simp [hy])
    have ih := ih (fun y hy => hL y (by simp [hy])) (fun k y hk => hn k y (by rw [List.getElem?_append_left (List.getElem?_eq_some_iff.1 hk).1]; exact hk))
    obtain ⟨h1, h2⟩ := hL x (by simp)
    rw [Cr.comes_snoc, List.foldl_append, hist_snoc]
    rcases hm : c.many (0 + L.length) with _ | m
    · exact List.mem_append_left _ ih
    · show (put2 _ (x, m)).getD n [] ∈ _
      by_cases hx : x.1 = n
      · have hnt : ¬ (((0 + L.length : Nat) : Int) = c.torn) := fun e => hn L.length x (by simp) (by rw [← e]; simp) hx
        unfold Cr.many at hm
        rw [if_neg hnt] at hm
        have hm' : m = 128 := by
          split at hm
          · cases hm; rfl
          · cases hm
        subst hm'
        rw [put2_full hl h1 (by rw [fold2_length]; exact h2), if_pos hx]
        refine List.mem_append_right _ ?_
        subst hx
        simp [fold2_length, h2]
      · refine List.mem_append_left _ ?_
        unfold put2
        have : ∀ (s : List (List UInt8)) b, (s.set x.1 b).getD n [] = s.getD n [] := fun s b => by simp [List.getD, List.getElem?_set_ne hx]
        rw [this]
        exact ih

/-- a sector that was not written is as it was -/
theorem unwritten (c : Cr) (L : List (Nat × List UInt8)) (S : List (List UInt8)) (n : Nat) (hn : (hist S L n).length = 1) : ((c.comesFrom 0 L).foldl put2 S).getD n [] = S.getD n [] := by
  induction L using snoc_ind with
  | h0 => rfl
  | h1 L x ih =>
    rw [hist_snoc, List.length_append] at hn
    have hp := hist_pos S L n
    have hx : x.1 ≠ n := by
      intro e; rw [if_pos e] at hn; rw [List.length_singleton] at hn; omega
    rw [if_neg hx] at hn
    have ih := ih (by simpa using hn)
    rw [Cr.comes_snoc, List.foldl_append]
    rcases hm : c.many (0 + L.length) with _ | m
    · exact ih
    · show (put2 _ (x, m)).getD n [] = _
      rw [← ih]
      show ((List.foldl put2 S (c.comesFrom 0 L)).set x.1 _).getD n [] = _
      simp [List.getD, List.getElem?_set_ne hx]

/-- the sector that may be torn -/
def tornAt (c : Cr) (L : List (Nat × List UInt8)) (N : Nat) : Nat := if 0 ≤ c.torn then (match L[c.torn.toNat]? with | some x => x.1 | none => N) else N
theorem kept_but (c : Cr) (L : List (Nat × List UInt8)) (S : List (List UInt8)) (hS : ∀ b ∈ S, b.length = 128) (hL : ∀ x ∈ L, x.2.length = 128 ∧ x.1 < S.length) (N n : Nat) (hn : n ≠ tornAt c L N) : ((c.comesFrom 0 L).foldl put2 S).getD n [] ∈ hist S L n := by
  refine kept c L S hS hL n fun k x hk hc e => ?_
  refine hn ?_
  unfold tornAt
  rw [if_pos (by omega), show c.torn.toNat = k by omega, hk]
  exact e.symm

theorem DV.wf {w₀ w : Go.World} {p : Nat} {D : Dv} (h : DV w₀ w p D) : (∀ b ∈ D.safe, b.length = 128) ∧ ∀ x ∈ D.cache, x.2.length = 128 ∧ x.1 < D.safe.length := by
  obtain ⟨vs, vc, h1, _⟩ := h
  exact ⟨h1.lens, h1.lenc⟩

theorem up_read {D : Dv} (hd : D.down = false) (hc : D.cache = []) {n : Nat} (hn : n < D.safe.length) : D.up n = 0 ∧ D.read n = D.safe.getD n [] := by
  refine ⟨?_, ?_⟩
  · unfold Dv.up; rw [if_neg (by simp [hd]), if_neg (by omega)]
  · unfold Dv.read; rw [hc]; rfl

theorem after_crash {D : Dv} (hl : ∀ b ∈ D.safe, b.length = 128) (hc : ∀ x ∈ D.cache, x.2.length = 128 ∧ x.1 < D.safe.length) (hm : D.cache.length ≤ 256) (c : Cr) {r : Nat} (hr : r = 40) {n : Nat} (hn : n < D.safe.length) :
    (({ D with down := true } : Dv).restarted c).up n = 0 ∧ (({ D with down := true } : Dv).restarted ⟨List.replicate r 255, -1, 0⟩).up n = 0 ∧
      (hist D.safe D.cache n)[(hist D.safe D.cache n).length - 1]? = some ((({ D with down := true } : Dv).restarted ⟨List.replicate r 255, -1, 0⟩).read n) ∧
      (n ≠ tornAt c D.cache 8 → (({ D with down := true } : Dv).restarted c).read n ∈ hist D.safe D.cache n) ∧ ((hist D.safe D.cache n).length = 1 → (({ D with down := true } : Dv).restarted c).read n = D.safe.getD n []) := by
  have hs : ∀ x : Cr, (({ D with down := true } : Dv).restarted x).safe = (x.comesFrom 0 D.cache).foldl put2 D.safe := fun _ => rfl
  obtain ⟨a1, a2⟩ := up_read (D := ({ D with down := true } : Dv).restarted c) rfl rfl (n := n) (by rw [hs, fold2_length]; exact hn)
  obtain ⟨b1, b2⟩ := up_read (D := ({ D with down := true } : Dv).restarted ⟨List.replicate r 255, -1, 0⟩) rfl rfl (n := n) (by rw [hs, fold2_length]; exact hn)
  rw [a2, b2, hs, hs]
  refine ⟨a1, b1, ?_, fun h => kept_but c D.cache D.safe hl hc 8 n h, fun h => unwritten c D.cache D.safe n h⟩
  rw [comes_all _ (show (-1 : Int) < 0 by omega) 320 (fun k hk => bit255 r k (by omega) _ _) D.cache (by omega) D.safe hl hc]
  exact whole_last D.safe D.cache (fun x hx => (hc x hx).2) n

theorem write_ok {D : Dv} {n : Int} {b : List UInt8} (h1 : D.plan = 0) (h2 : D.down = false) (hE : D.writeE n b.length = 0) : 0 ≤ n ∧ n < D.safe.length ∧ D.write n b = { D with cache := D.cache ++ [(n.toNat, b)], calls := D.calls + 1 } := by
  unfold Dv.writeE at hE
  have hu : D.up n = 0 := by
    by_cases h : D.up n = 0
    · exact h
    · rw [if_pos h] at hE; exact hE
  rw [if_neg (by omega)] at hE
  by_cases hb : b.length ≠ 128
  · rw [if_pos hb] at hE; omega
  · rw [if_neg hb] at hE
    by_cases hc : 256 ≤ D.cache.length
    · rw [if_pos hc] at hE; omega
    · refine ⟨?_, ?_, ?_⟩
      · unfold Dv.up at hu
        rw [if_neg (by simp [h2])] at hu
        split at hu
        · omega
        · omega
      · unfold Dv.up at hu
        rw [if_neg (by simp [h2])] at hu
        split at hu
        · omega
        · omega
      · unfold Dv.write
        rw [if_neg (by omega)]
        unfold Dv.tick
        rw [if_neg (show ¬ D.plan = 1 by omega)]
        simp [h1]

theorem write_no {D : Dv} {n : Int} {b : List UInt8} (h1 : D.plan = 0) (hE : D.writeE n b.length ≠ 0) : D.write n b = D := by
  unfold Dv.write
  rw [if_pos]
  unfold Dv.writeE at hE
  by_cases hu : D.up n = 0
  · rw [if_neg (by omega)] at hE
    by_cases hb : b.length ≠ 128
    · exact .inr (.inl hb)
    · rw [if_neg hb] at hE
      by_cases hc : 256 ≤ D.cache.length
      · exact .inr (.inr hc)
      · rw [if_neg hc, if_neg (by omega)] at hE; exact absurd rfl hE
  · exact .inl hu

/-- an open device -/
structure Open8 (D : Dv) : Prop where
  plan : D.plan = 0
  down : D.down = false
  len : D.safe.length = 8
theorem Open8.write {D : Dv} (h : Open8 D) (n : Int) (b : List UInt8) : Open8 (D.write n b) ∧ (D.write n b).calls ≤ D.calls + 1 := by
  by_cases hE : D.writeE n b.length = 0
  · obtain ⟨_, _, e⟩ := write_ok h.plan h.down hE
    rw [e]; exact ⟨⟨h.plan, h.down, h.len⟩, Nat.le_refl _⟩
  · rw [write_no h.plan hE]; exact ⟨h, by omega⟩
theorem Open8.flush {D : Dv} (h : Open8 D) : Open8 D.flush ∧ D.flushE = 0 ∧ D.flush.cache = [] ∧ D.flush.calls = D.calls + 1 := by
  have hd : ¬ D.down = true := by simp [h.down]
  have hp : ¬ D.plan = 1 := by have := h.plan; omega
  have hf : D.flush = { D.flushed with calls := D.calls + 1, plan := D.plan - 1 } := by
    unfold Dv.flush; rw [if_neg hd, if_neg hp]
    unfold Dv.tick; rw [if_neg (show ¬ D.flushed.plan = 1 from hp)]; rfl
  have hE : D.flushE = 0 := by unfold Dv.flushE; rw [if_neg hd, if_neg hp]
  rw [hf]
  exact ⟨⟨by show D.plan - 1 = 0; have := h.plan; omega, h.down, by show (D.cache.foldl put1 D.safe).length = 8; rw [fold_len]; exact h.len⟩, hE, rfl, rfl⟩
end Go.Proofs.Ytbmankbbkemkcaa
