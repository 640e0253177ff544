/- Two devices of one law, and what else a law keeps. -/
import Derived.Test.YtbmankbbkemkcaaLaw
import Derived.Deep.AppendLies
namespace Go.Proofs.Ytbmankbbkemkcaa
open Go.RowKit Go.Shelf

/-- blocks of a law's own that belong to no device -/
def Loose (w₀ w : World) (k : Nat) : Prop := w₀.heap.size ≤ k ∧ ∃ c t f, w.heap[k]? = some (Obj.cells c t f) ∧ t ≠ 67 ∧ t ≠ 83 ∧ t ≠ 85

theorem DevAt.loose {w₀ w : World} {p : Nat} {vs vc : Value} {D : Dv} (h : DevAt w p vs vc D) {k : Nat} (hk : Foot p vs vc k) : ¬ Loose w₀ w k := by
  rintro ⟨_, c, t, f, hg, h1, h2, h3⟩
  rcases hk with rfl | e | e
  · rw [h.blk] at hg; simp at hg; exact h1 hg.2.1.symm
  · rcases h.safe.2 with ⟨e2, _⟩ | ⟨g, cap, cur, e2, _, hg', _⟩
    · rw [e2] at e; simp [Value.ownBlock] at e
    · rw [e2] at e; simp [Value.ownBlock] at e; subst e; rw [hg'] at hg; simp at hg; exact h2 hg.2.1.symm
  · rcases h.cache.2 with ⟨e2, _⟩ | ⟨g, cap, cur, e2, _, hg', _⟩
    · rw [e2] at e; simp [Value.ownBlock] at e
    · rw [e2] at e; simp [Value.ownBlock] at e; subst e; rw [hg'] at hg; simp at hg; exact h3 hg.2.1.symm

theorem below_loose {w₀ w W : World} (h3 : Below w₀.heap.size w₀ w) (hf : Fr (Loose w₀ w) w W) : Below w₀.heap.size w₀ W :=
  h3.trans ⟨hf.os, hf.tape, hf.output, hf.size, fun k hk => hf.block k (Nat.lt_of_lt_of_le hk h3.size) (fun e => by have := e.1; omega)⟩

theorem DV.loose {w₀ w W : World} {p : Nat} {D : Dv} (h : DV w₀ w p D) (hf : Fr (Loose w₀ w) w W) : DV w₀ W p D := by
  obtain ⟨vs, vc, h1, h2, h3⟩ := h
  exact ⟨vs, vc, h1.fr hf (fun k hk => h1.loose hk), h2, below_loose h3 hf⟩

/-- a store into a block of the law's own -/
theorem fr_set {w₀ w : World} {g i : Nat} {c : Array Value} {t : TypeId} {f : Nat × Nat} (hg : w.heap[g]? = some (Obj.cells c t f)) (hb : w₀.heap.size ≤ g) (h1 : t ≠ 67) (h2 : t ≠ 83) (h3 : t ≠ 85) (v : Value) : Fr (Loose w₀ w) w (w.setCell ⟨g, i, none⟩ v) :=
  (Fr.one w g i v).mono fun k _ e => by subst e; exact ⟨hb, c, t, f, hg, h1, h2, h3⟩

/-- an append to a row of the law's own -/
theorem fr_grown {w₀ w W : World} {B : Nat} {e : TypeId} {s : Nat} {v : Value} {n : Nat} {xs : List Value} (h : w.ownsRow B e s v n xs) (hB : w₀.heap.size ≤ B) (h1 : e ≠ 67) (h2 : e ≠ 83) (h3 : e ≠ 85) (hg : w.grownBy W v.ownBlock) : Fr (Loose w₀ w) w W :=
  (Fr.refl _ w).grown hg fun k hk => .inl (by
    rcases h.2 with ⟨e2, _⟩ | ⟨g, cap, cur, e2, hb, hg', _⟩
    · rw [e2] at hk; simp [Value.ownBlock] at hk
    · rw [e2] at hk; simp [Value.ownBlock] at hk; subst hk; exact ⟨Nat.le_trans hB hb, _, _, _, hg', h1, h2, h3⟩)

/-- two devices of a law -/
def Two (w₀ w : World) (p q : Nat) (D E : Dv) : Prop := ∃ vs vc us uc, DevAt w p vs vc D ∧ DevAt w q us uc E ∧ (∀ k, Foot p vs vc k → ¬ Foot q us uc k) ∧ (∀ k, Foot p vs vc k → w₀.heap.size ≤ k) ∧ (∀ k, Foot q us uc k → w₀.heap.size ≤ k) ∧ Below w₀.heap.size w₀ w

section
variable {w₀ w : World} {p q : Nat} {D E : Dv}
theorem Two.symm (h : Two w₀ w p q D E) : Two w₀ w q p E D := by
  obtain ⟨vs, vc, us, uc, h1, h2, h3, h4, h5, h6⟩ := h
  exact ⟨us, uc, vs, vc, h2, h1, fun k hk hk' => h3 k hk' hk, h5, h4, h6⟩
theorem Two.left (h : Two w₀ w p q D E) : DV w₀ w p D := by
  obtain ⟨vs, vc, us, uc, h1, h2, h3, h4, h5, h6⟩ := h
  exact ⟨vs, vc, h1, h4, h6⟩
theorem Two.right (h : Two w₀ w p q D E) : DV w₀ w q E := h.symm.left
theorem Two.start (h : Two w₀ w p q D E) : Below w₀.heap.size w₀ w := h.left.start
theorem Two.below {W : World} (h : Two w₀ w p q D E) (hb : Below w.heap.size w W) : Two w₀ W p q D E := by
  obtain ⟨vs, vc, us, uc, h1, h2, h3, h4, h5, h6⟩ := h
  exact ⟨vs, vc, us, uc, h1.fr (Fr.of_below hb (fun _ => False)) (fun _ _ e => e), h2.fr (Fr.of_below hb (fun _ => False)) (fun _ _ e => e), h3, h4, h5, h6.trans (hb.mono h6.size)⟩
theorem Two.loose {W : World} (h : Two w₀ w p q D E) (hf : Fr (Loose w₀ w) w W) : Two w₀ W p q D E := by
  obtain ⟨vs, vc, us, uc, h1, h2, h3, h4, h5, h6⟩ := h
  exact ⟨vs, vc, us, uc, h1.fr hf (fun k hk => h1.loose hk), h2.fr hf (fun k hk => h2.loose hk), h3, h4, h5, below_loose h6 hf⟩
/-- the left one moved on -/
theorem Two.moved {W : World} {vs vc us uc vs' vc' : Value} {D' : Dv} (h2 : DevAt w q us uc E) (h3 : ∀ k, Foot p vs vc k → ¬ Foot q us uc k) (h4 : ∀ k, Foot p vs vc k → w₀.heap.size ≤ k) (h5 : ∀ k, Foot q us uc k → w₀.heap.size ≤ k) (h6 : Below w₀.heap.size w₀ w)
    (hd : DevAt W p vs' vc' D') (hf : Fr (Foot p vs vc) w W) (hn : ∀ k, Foot p vs' vc' k → Foot p vs vc k) : Two w₀ W p q D' E :=
  ⟨vs', vc', us, uc, hd, h2.fr hf (fun k hk hk' => h3 k hk' hk), fun k hk => h3 k (hn k hk), fun k hk => h4 k (hn k hk), h5, h6.trans ⟨hf.os, hf.tape, hf.output, hf.size, fun k hk => hf.block k (Nat.lt_of_lt_of_le hk h6.size) (fun e => by have := h4 k e; omega)⟩⟩

theorem copyR (h : DV w₀ w p D) : Calls Try.prog 17 #[.pointer (some ⟨p, 0, none⟩)] w fun e w' => ∃ q, e = .returned (.pointer (some ⟨q, 0, none⟩)) ∧ Two w₀ w' p q D D ∧ KT w w' := by
  obtain ⟨vs, vc, h1, h2, h3⟩ := h
  refine (copy_any p vs vc D w h1).mono ?_
  rintro e w' ⟨q, us, uc, rfl, hd, hb, hf⟩
  exact ⟨q, rfl, ⟨vs, vc, us, uc, h1.fr (Fr.of_below hb (fun _ => False)) (fun _ _ e => e), hd, fun k hk hk' => by have := hf k hk'; have := h1.foot_lt hk; omega, h2, fun k hk => Nat.le_trans h3.size (hf k hk), h3.trans (hb.mono h3.size)⟩, .of_below hb⟩

theorem pull2 (h : Two w₀ w p q D E) {D' : Dv} (hD : { D with down := true } = D') :
    Calls Try.prog 18 #[.pointer (some ⟨p, 0, none⟩)] w fun e w' => e = .returned (.int .i64 0) ∧ Two w₀ w' p q D' E ∧ KT w w' := by
  obtain ⟨vs, vc, us, uc, h1, h2, h3, h4, h5, h6⟩ := h
  refine (pull_any p vs vc D w h1).mono ?_
  rintro e w' ⟨rfl, hd, hf⟩
  subst hD
  have hf' : Fr (Foot p vs vc) w w' := hf.mono fun k _ e => .inl e
  exact ⟨rfl, Two.moved h2 h3 h4 h5 h6 hd hf' (fun k hk => hk), .of_fr h1 hf'⟩
theorem pull2' (h : Two w₀ w p q D E) {E' : Dv} (hD : { E with down := true } = E') :
    Calls Try.prog 18 #[.pointer (some ⟨q, 0, none⟩)] w fun e w' => e = .returned (.int .i64 0) ∧ Two w₀ w' p q D E' ∧ KT w w' :=
  (pull2 h.symm hD).mono fun _ _ ⟨e, h1, h2⟩ => ⟨e, h1.symm, h2⟩

theorem restart2 (h : Two w₀ w p q D E) (hdn : D.down = true) (c : Cr) {ak : Option Addr} {l capk : Nat} (hl : c.keep.length = l) (hk : BytesV w (.slice ak l capk) c.keep) (hlen : c.keep.length ≤ 64)
    {t a : Int} (ht : c.torn = t) (ha : c.at_ = a) (ht1 : -9223372036854775808 ≤ c.torn ∧ c.torn < 9223372036854775808) (ht2 : -9223372036854775808 ≤ c.at_ ∧ c.at_ < 9223372036854775808) (hks : c.keep ≠ [] → ∀ a, ak = some a → a.block < w₀.heap.size ∨ ∃ cs f, w.heap[a.block]? = some (.cells cs 5 f)) {D' : Dv} (hD : D.restarted c = D') :
    Calls Try.prog 19 #[.pointer (some ⟨p, 0, none⟩), .agg #[.slice ak l capk, .int .i64 t, .int .i64 a]] w fun e w' => e = .returned (.int .i64 0) ∧ Two w₀ w' p q D' E ∧ KT w w' := by
  obtain ⟨vs, vc, us, uc, h1, h2, h3, h4, h5, h6⟩ := h
  subst hl hD ht ha
  refine (restart_any p vs vc D w h1 hdn c ak capk hk hlen ht1 ht2 ?_).mono ?_
  · intro hne a ha e
    rcases hks hne a ha with hlt | ⟨cs, f, hc⟩
    · have := h4 a.block (.inr (.inl e)); omega
    · rcases h1.safe.2 with ⟨e2, _⟩ | ⟨g, cap, cur, e2, _, hg, _⟩
      · rw [e2] at e; simp [Value.ownBlock] at e
      · rw [e2] at e; simp [Value.ownBlock] at e; subst e; rw [hg] at hc; simp at hc
  · rintro e w' ⟨rfl, hd, hf⟩
    exact ⟨rfl, Two.moved h2 h3 h4 h5 h6 hd hf (fun k hk' => by
      rcases hk' with e | e | e
      · exact .inl e
      · exact .inr (.inl e)
      · simp [Value.ownBlock] at e), .of_fr h1 hf⟩
theorem restart2' (h : Two w₀ w p q D E) (hdn : E.down = true) (c : Cr) {ak : Option Addr} {l capk : Nat} (hl : c.keep.length = l) (hk : BytesV w (.slice ak l capk) c.keep) (hlen : c.keep.length ≤ 64)
    {t a : Int} (ht : c.torn = t) (ha : c.at_ = a) (ht1 : -9223372036854775808 ≤ c.torn ∧ c.torn < 9223372036854775808) (ht2 : -9223372036854775808 ≤ c.at_ ∧ c.at_ < 9223372036854775808) (hks : c.keep ≠ [] → ∀ a, ak = some a → a.block < w₀.heap.size ∨ ∃ cs f, w.heap[a.block]? = some (.cells cs 5 f)) {E' : Dv} (hD : E.restarted c = E') :
    Calls Try.prog 19 #[.pointer (some ⟨q, 0, none⟩), .agg #[.slice ak l capk, .int .i64 t, .int .i64 a]] w fun e w' => e = .returned (.int .i64 0) ∧ Two w₀ w' p q D E' ∧ KT w w' :=
  (restart2 h.symm hdn c hl hk hlen ht ha ht1 ht2 hks hD).mono fun _ _ ⟨e, h1, h2⟩ => ⟨e, h1.symm, h2⟩

theorem read2 (h : Two w₀ w p q D E) {n : Nat} (hu : D.up n = 0) {b : List UInt8} (hb : D.read n = b) : Calls Try.prog 16 #[.pointer (some ⟨p, 0, none⟩), .int .i64 (n : Int)] w fun e w' => ∃ ao cap, e = .returned (.tuple #[.slice ao b.length cap, .int .i64 0]) ∧ NewB w w' (.slice ao b.length cap) b ∧ Two w₀ w' p q D E := by
  obtain ⟨vs, vc, us, uc, h1, h2, h3, h4, h5, h6⟩ := h
  subst hb
  refine (read_any p vs vc D w h1 n hu).mono ?_
  rintro e w' ⟨v, rfl, hN⟩
  obtain ⟨ao, cap, rfl⟩ := hN.bytesV.len
  exact ⟨ao, cap, rfl, hN, Two.below ⟨vs, vc, us, uc, h1, h2, h3, h4, h5, h6⟩ hN.2.1⟩
theorem read2' (h : Two w₀ w p q D E) {n : Nat} (hu : E.up n = 0) {b : List UInt8} (hb : E.read n = b) : Calls Try.prog 16 #[.pointer (some ⟨q, 0, none⟩), .int .i64 (n : Int)] w fun e w' => ∃ ao cap, e = .returned (.tuple #[.slice ao b.length cap, .int .i64 0]) ∧ NewB w w' (.slice ao b.length cap) b ∧ Two w₀ w' p q D E :=
  (read2 h.symm hu hb).mono fun _ _ ⟨ao, cap, e, h1, h2⟩ => ⟨ao, cap, e, h1, h2.symm⟩
theorem readL (h : DV w₀ w p D) {n : Nat} (hu : D.up n = 0) {b : List UInt8} (hb : D.read n = b) : Calls Try.prog 16 #[.pointer (some ⟨p, 0, none⟩), .int .i64 (n : Int)] w fun e w' => ∃ ao cap, e = .returned (.tuple #[.slice ao b.length cap, .int .i64 0]) ∧ NewB w w' (.slice ao b.length cap) b ∧ DV w₀ w' p D := by
  subst hb
  refine (readR h n hu).mono ?_
  rintro e w' ⟨v, rfl, hN, hd⟩
  obtain ⟨ao, cap, rfl⟩ := hN.bytesV.len
  exact ⟨ao, cap, rfl, hN, hd⟩
end
end Go.Proofs.Ytbmankbbkemkcaa
