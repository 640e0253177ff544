/- BlockdevPlays: the program's device and the document's, side by side. -/
import Derived.Test.YtbmankbbkemkcaaRefg
namespace Go.Proofs.Ytbmankbbkemkcaa
open Go.RowKit Go.Shelf Go.Maps

theorem KO.of_fr {w w' : World} {p : Nat} {vs vc : Value} {D : Dv} (h : DevAt w p vs vc D) (hf : Fr (Foot p vs vc) w w') : KO w w' := by
  intro k o hk hn
  refine (hf.block k (Array.getElem?_eq_some_iff.1 hk).1 ?_).trans hk
  rintro (rfl | e | e)
  · rw [h.blk] at hk; exact (hn _ _ _ (Option.some.inj hk).symm).1 rfl
  · rcases h.safe.2 with ⟨e2, _⟩ | ⟨g, cap, cur, e2, _, hg, _⟩
    · rw [e2] at e; simp [Value.ownBlock] at e
    · rw [e2] at e; simp [Value.ownBlock] at e; subst e; rw [hg] at hk; exact (hn _ _ _ (Option.some.inj hk).symm).2.1 rfl
  · rcases h.cache.2 with ⟨e2, _⟩ | ⟨g, cap, cur, e2, _, hg, _⟩
    · rw [e2] at e; simp [Value.ownBlock] at e
    · rw [e2] at e; simp [Value.ownBlock] at e; subst e; rw [hg] at hk; exact (hn _ _ _ (Option.some.inj hk).symm).2.2 rfl

section
variable {w₀ w : World} {p q : Nat} {D E : Dv}

theorem Two.step {W : World} {vs vc us uc vs' vc' : Value} {D' : Dv} (h1 : DevAt w p vs vc D) (h2 : DevAt w q us uc E) (h3 : ∀ k, Foot p vs vc k → ¬ Foot q us uc k) (h4 : ∀ k, Foot p vs vc k → w₀.heap.size ≤ k) (h5 : ∀ k, Foot q us uc k → w₀.heap.size ≤ k) (h6 : Below w₀.heap.size w₀ w)
    (hd : DevAt W p vs' vc' D') (hf : Fr (Foot p vs vc) w W) (hn : ∀ k, Foot p vs' vc' k → Foot p vs vc k ∨ w.heap.size ≤ k) : Two w₀ W p q D' E ∧ KO w W :=
  ⟨⟨vs', vc', us, uc, hd, h2.fr hf (fun k hk hk' => h3 k hk' hk), fun k hk hk' => (hn k hk).elim (fun e => h3 k e hk') (fun e => by have := h2.foot_lt hk'; omega), fun k hk => (hn k hk).elim (h4 k) (fun e => Nat.le_trans h6.size e), h5,
    h6.trans ⟨hf.os, hf.tape, hf.output, hf.size, fun k hk => hf.block k (Nat.lt_of_lt_of_le hk h6.size) (fun e => by have := h4 k e; omega)⟩⟩, .of_fr h1 hf⟩

theorem writeO (h : Two w₀ w p q D E) {n : Int} {vb : Value} {b : List UInt8} (hvb : BytesV w vb b) (hap : vb.ownBlock ≠ some p) (hcalls : D.calls < 4611686018427387904) {x : Int} (hE : D.writeE n b.length = x) {D' : Dv} (hD : D.write n b = D') :
    Calls Try.prog 13 #[.pointer (some ⟨p, 0, none⟩), .int .i64 n, vb] w fun e w' => e = .returned (.int .i64 x) ∧ Two w₀ w' p q D' E ∧ KO w w' := by
  obtain ⟨vs, vc, us, uc, h1, h2, h3, h4, h5, h6⟩ := h
  refine (write_any p vs vc D w h1 n vb b hvb hap hcalls).mono ?_
  rintro e w' ⟨rfl, vc', hd, hf, hk⟩
  subst hE hD
  exact ⟨rfl, Two.step h1 h2 h3 h4 h5 h6 hd hf (fun k hk' => DevR.foot hk hk')⟩
theorem flushO (h : Two w₀ w p q D E) (hcalls : D.calls < 4611686018427387904) {x : Int} (hE : D.flushE = x) {D' : Dv} (hD : D.flush = D') :
    Calls Try.prog 15 #[.pointer (some ⟨p, 0, none⟩)] w fun e w' => e = .returned (.int .i64 x) ∧ Two w₀ w' p q D' E ∧ KO w w' := by
  obtain ⟨vs, vc, us, uc, h1, h2, h3, h4, h5, h6⟩ := h
  refine (flush_any p vs vc D w h1 hcalls).mono ?_
  rintro e w' ⟨rfl, vc', hd, hf, hk⟩
  subst hE hD
  exact ⟨rfl, Two.step h1 h2 h3 h4 h5 h6 hd hf (fun k hk' => DevR.foot hk hk')⟩
theorem pullO (h : Two w₀ w p q D E) {D' : Dv} (hD : { D with down := true } = D') :
    Calls Try.prog 18 #[.pointer (some ⟨p, 0, none⟩)] w fun e w' => e = .returned (.int .i64 0) ∧ Two w₀ w' p q D' E ∧ KO w w' := by
  obtain ⟨vs, vc, us, uc, h1, h2, h3, h4, h5, h6⟩ := h
  refine (pull_any p vs vc D w h1).mono ?_
  rintro e w' ⟨rfl, hd, hf⟩
  subst hD
  exact ⟨rfl, Two.step h1 h2 h3 h4 h5 h6 hd (hf.mono fun k _ e => .inl e) (fun k hk' => .inl hk')⟩
theorem planO (h : Two w₀ w p q D E) {n : Int} (hn : n ≤ 9223372036854775807) {x : Int} (hE : D.planE n = x) {D' : Dv} (hD : D.setPlan n = D') :
    Calls Try.prog 21 #[.pointer (some ⟨p, 0, none⟩), .int .i64 n] w fun e w' => e = .returned (.int .i64 x) ∧ Two w₀ w' p q D' E ∧ KO w w' := by
  obtain ⟨vs, vc, us, uc, h1, h2, h3, h4, h5, h6⟩ := h
  refine (plan_any p vs vc D w h1 n hn).mono ?_
  rintro e w' ⟨rfl, hd, hf⟩
  subst hE hD
  exact ⟨rfl, Two.step h1 h2 h3 h4 h5 h6 hd (hf.mono fun k _ e => .inl e) (fun k hk' => .inl hk')⟩
theorem restartO (h : Two w₀ w p q D E) (hdn : D.down = true) (c : Cr) {ak : Option Addr} {l capk : Nat} (hl : c.keep.length = l) (hk : BytesV w (.slice ak l capk) c.keep) (hlen : c.keep.length ≤ 64)
    {t a : Int} (ht : c.torn = t) (ha : c.at_ = a) (ht1 : I64 t) (ht2 : I64 a) (hks : c.keep ≠ [] → ∀ a, ak = some a → a.block < w₀.heap.size) {D' : Dv} (hD : D.restarted c = D') :
    Calls Try.prog 19 #[.pointer (some ⟨p, 0, none⟩), .agg #[.slice ak l capk, .int .i64 t, .int .i64 a]] w fun e w' => e = .returned (.int .i64 0) ∧ Two w₀ w' p q D' E ∧ KO w w' := by
  obtain ⟨vs, vc, us, uc, h1, h2, h3, h4, h5, h6⟩ := h
  subst hl hD ht ha
  refine (restart_any p vs vc D w h1 hdn c ak capk hk hlen ht1 ht2 (fun hne a ha e => ?_)).mono ?_
  · have := hks hne a ha
    have := h4 a.block (.inr (.inl e)); omega
  · rintro e w' ⟨rfl, hd, hf⟩
    exact ⟨rfl, Two.step h1 h2 h3 h4 h5 h6 hd hf (fun k hk' => .inl (by
      rcases hk' with e | e | e
      · exact .inl e
      · exact .inr (.inl e)
      · simp [Value.ownBlock] at e))⟩
theorem restartUpO (h : Two w₀ w p q D E) (hdn : D.down = false) (ak : Option Addr) (l c : Nat) (t a : Int) : Calls Try.prog 19 #[.pointer (some ⟨p, 0, none⟩), .agg #[.slice ak l c, .int .i64 t, .int .i64 a]] w fun e w' => e = .returned (.int .i64 2) ∧ Two w₀ w' p q D E ∧ KO w w' := by
  obtain ⟨vs, vc, us, uc, h1, h2, h3, h4, h5, h6⟩ := h
  refine (restart_up p vs vc D w h1 hdn ak l c t a).mono ?_
  rintro e w' ⟨rfl, hb⟩
  exact ⟨rfl, Two.below ⟨vs, vc, us, uc, h1, h2, h3, h4, h5, h6⟩ hb, .of_below hb⟩
theorem readErrO (h : Two w₀ w p q D E) {n x : Int} (hu : D.up n = x) (hx : x ≠ 0) : Calls Try.prog 16 #[.pointer (some ⟨p, 0, none⟩), .int .i64 n] w fun e w' => e = .returned (.tuple #[.slice none 0 0, .int .i64 x]) ∧ Two w₀ w' p q D E ∧ KO w w' := by
  obtain ⟨vs, vc, us, uc, h1, h2, h3, h4, h5, h6⟩ := h
  subst hu
  refine (read_err p vs vc D w h1 n hx).mono ?_
  rintro e w' ⟨rfl, hb⟩
  exact ⟨rfl, Two.below ⟨vs, vc, us, uc, h1, h2, h3, h4, h5, h6⟩ hb, .of_below hb⟩

/-- the document's device's calls leave the two devices -/
theorem RefAt.foot {r mb n : Nat} {vc : Value} {Vs : List Value} {F : Nat → Option Value} {Dr : Dv} (h : RefAt w₀ w r mb n vc Vs F Dr) {vs uc : Value} (hd : DevAt w p vs uc D) {k : Nat} (hk : Foot p vs uc k) : ¬ RS r mb vc k := by
  have ty : ∃ c t, w.heap[k]? = some (.cells c t (0, 0)) ∧ (t = 67 ∨ t = 83 ∨ t = 85) := by
    rcases hk with rfl | e | e
    · exact ⟨_, _, hd.blk, .inl rfl⟩
    · rcases hd.safe.2 with ⟨e2, _⟩ | ⟨g, cap, cur, e2, _, hg, _⟩
      · rw [e2] at e; simp [Value.ownBlock] at e
      · rw [e2] at e; simp [Value.ownBlock] at e; subst e; exact ⟨_, _, hg, .inr (.inl rfl)⟩
    · rcases hd.cache.2 with ⟨e2, _⟩ | ⟨g, cap, cur, e2, _, hg, _⟩
      · rw [e2] at e; simp [Value.ownBlock] at e
      · rw [e2] at e; simp [Value.ownBlock] at e; subst e; exact ⟨_, _, hg, .inr (.inr rfl)⟩
  obtain ⟨c, t, hc, ht⟩ := ty
  rintro (rfl | rfl | e)
  · rw [h.blk] at hc; simp at hc; obtain ⟨_, rfl⟩ := hc; revert ht; decide
  · obtain ⟨es, cl, hm⟩ := h.mapBlk
    rw [hm] at hc; cases hc
  · obtain ⟨c', hc'⟩ := h.type59 e
    rw [hc'] at hc; simp at hc; obtain ⟨_, rfl⟩ := hc; revert ht; decide

theorem Two.ref {r mb n : Nat} {vc : Value} {Vs : List Value} {F : Nat → Option Value} {Dr : Dv} {W : World} (h : Two w₀ w p q D E) (hr : RefAt w₀ w r mb n vc Vs F Dr) (hf : Fr (RS r mb vc) w W) : Two w₀ W p q D E := by
  obtain ⟨vs, vc, us, uc, h1, h2, h3, h4, h5, h6⟩ := h
  exact ⟨vs, vc, us, uc, h1.fr hf (fun k hk => hr.foot h1 hk), h2.fr hf (fun k hk => hr.foot h2 hk), h3, h4, h5,
    h6.trans ⟨hf.os, hf.tape, hf.output, hf.size, fun k hk => hf.block k (Nat.lt_of_lt_of_le hk h6.size) (hr.not_old hk)⟩⟩
theorem RefAt.other {r mb n : Nat} {vc : Value} {Vs : List Value} {F : Nat → Option Value} {Dr : Dv} {W : World} (hr : RefAt w₀ w r mb n vc Vs F Dr) (hf : Fr (RS r mb vc) w W) {k : Nat} {c : Array Value} {t : TypeId} {f : Nat × Nat} (hk : w.heap[k]? = some (.cells c t f)) (h1 : t ≠ 57) (h2 : t ≠ 59) : W.heap[k]? = some (.cells c t f) := by
  refine (hf.block k (Array.getElem?_eq_some_iff.1 hk).1 ?_).trans hk
  rintro (rfl | rfl | e)
  · rw [hr.blk] at hk; simp at hk; exact h1 hk.2.1.symm
  · obtain ⟨es, cl, hm⟩ := hr.mapBlk
    rw [hm] at hk; cases hk
  · obtain ⟨c', hc'⟩ := hr.type59 e
    rw [hc'] at hk; simp at hk; exact h2 hk.2.1.symm
end
end Go.Proofs.Ytbmankbbkemkcaa
