/- The device's calls, as the laws use them: its blocks hidden. -/
import Derived.Test.YtbmankbbkemkcaaGone
namespace Go.Proofs.Ytbmankbbkemkcaa
open Go.RowKit Go.Shelf

/-- a device of a law that began at w₀ -/
def DV (w₀ w : World) (p : Nat) (D : Dv) : Prop := ∃ vs vc, DevAt w p vs vc D ∧ (∀ k, Foot p vs vc k → w₀.heap.size ≤ k) ∧ Below w₀.heap.size w₀ w
/-- what is of no device is kept -/
def KT (w w' : World) : Prop := ∀ (k : Nat) (c : Array Value) (t : TypeId) (f : Nat × Nat), w.heap[k]? = some (Obj.cells c t f) → t ≠ 67 → t ≠ 83 → t ≠ 85 → w'.heap[k]? = some (Obj.cells c t f)

theorem KT.of_below {w w' : World} (h : Below w.heap.size w w') : KT w w' := fun k _ _ _ hk _ _ _ => (h.block k (Array.getElem?_eq_some_iff.1 hk).1).trans hk
theorem KT.refl (w : World) : KT w w := fun _ _ _ _ h _ _ _ => h
theorem KT.trans {a b c : World} (h : KT a b) (k : KT b c) : KT a c := fun i x t f hi h1 h2 h3 => k i x t f (h i x t f hi h1 h2 h3) h1 h2 h3
theorem KT.of_fr {w w' : World} {p : Nat} {vs vc : Value} {D : Dv} (h : DevAt w p vs vc D) (hf : Fr (Foot p vs vc) w w') : KT w w' := by
  intro k c t f hk h1 h2 h3
  refine (hf.block k (Array.getElem?_eq_some_iff.1 hk).1 ?_).trans hk
  rintro (rfl | e | e)
  · rw [h.blk] at hk; simp at hk; exact h1 hk.2.1.symm
  · rcases h.safe.2 with ⟨e2, _⟩ | ⟨g, cap, cur, e2, _, hg, _⟩
    · rw [e2] at e; simp [Value.ownBlock] at e
    · rw [e2] at e; simp [Value.ownBlock] at e; subst e; rw [hg] at hk; simp at hk; exact h2 hk.2.1.symm
  · rcases h.cache.2 with ⟨e2, _⟩ | ⟨g, cap, cur, e2, _, hg, _⟩
    · rw [e2] at e; simp [Value.ownBlock] at e
    · rw [e2] at e; simp [Value.ownBlock] at e; subst e; rw [hg] at hk; simp at hk; exact h3 hk.2.1.symm

theorem DV.below {w₀ w W : World} {p : Nat} {D : Dv} (h : DV w₀ w p D) (hb : Below w.heap.size w W) : DV w₀ W p D := by
  obtain ⟨vs, vc, h1, h2, h3⟩ := h
  exact ⟨vs, vc, h1.fr (Fr.of_below hb (fun _ => False)) (fun _ _ e => e), h2, h3.trans (hb.mono h3.size)⟩
theorem DV.lt {w₀ w : World} {p : Nat} {D : Dv} (h : DV w₀ w p D) : p < w.heap.size ∧ w₀.heap.size ≤ p ∧ w₀.heap.size ≤ w.heap.size := by
  obtain ⟨vs, vc, h1, h2, h3⟩ := h
  exact ⟨h1.foot_lt (.inl rfl), h2 p (.inl rfl), h3.size⟩
theorem DV.start {w₀ w : World} {p : Nat} {D : Dv} (h : DV w₀ w p D) : Below w₀.heap.size w₀ w := h.choose_spec.choose_spec.2.2

/-- the device moved on: blocks of its own were written, new ones laid -/
theorem DV.fr {w₀ w W : World} {p : Nat} {vs vc vs' vc' : Value} {D' : Dv} (h2 : ∀ k, Foot p vs vc k → w₀.heap.size ≤ k) (h3 : Below w₀.heap.size w₀ w) (hd : DevAt W p vs' vc' D') (hf : Fr (Foot p vs vc) w W) (hn : ∀ k, Foot p vs' vc' k → Foot p vs vc k ∨ w.heap.size ≤ k) : DV w₀ W p D' :=
  ⟨vs', vc', hd, fun k hk => (hn k hk).elim (h2 k) (fun e => Nat.le_trans h3.size e), h3.trans ⟨hf.os, hf.tape, hf.output, hf.size, fun k hk => hf.block k (Nat.lt_of_lt_of_le hk h3.size) (fun e => by have := h2 k e; omega)⟩⟩

section
variable {w₀ w : World} {p : Nat} {D : Dv}

theorem newR (w₀ w : World) (hb : Below w₀.heap.size w₀ w) (n : Nat) (h1 : 1 ≤ n) (h2 : n ≤ 65536) : Calls Try.prog 12 #[.int .i64 (n : Int)] w fun e w' => ∃ p, e = .returned (.tuple #[.pointer (some ⟨p, 0, none⟩), .int .i64 0]) ∧ DV w₀ w' p (Dv.new n) ∧ KT w w' := by
  refine (new_any n w h1 h2).mono ?_
  rintro e w' ⟨p, vs, vc, rfl, hd, hbel, hf⟩
  exact ⟨p, rfl, ⟨vs, vc, hd, fun k hk => Nat.le_trans hb.size (hf k hk), hb.trans (hbel.mono hb.size)⟩, .of_below hbel⟩

theorem fullR (c : UInt8) (w : World) : Calls Try.prog 29 #[.int .u8 (c.toNat : Int)] w fun e w' => ∃ g, e = .returned (.slice (some ⟨g, 0, none⟩) 128 128) ∧ w'.heap[g]? = some (.cells (bys (List.replicate 128 c)).toArray 5 (0, 0)) ∧ w.heap.size ≤ g ∧ Below w.heap.size w w' := full_any c w

theorem writeR (h : DV w₀ w p D) {n : Int} {vb : Value} {b : List UInt8} (hvb : BytesV w vb b) (hap : vb.ownBlock ≠ some p) (hcalls : D.calls < 4611686018427387904) {r : Int} (hE : D.writeE n b.length = r) {D' : Dv} (hD : D.write n b = D') :
    Calls Try.prog 13 #[.pointer (some ⟨p, 0, none⟩), .int .i64 n, vb] w fun e w' => e = .returned (.int .i64 r) ∧ DV w₀ w' p D' ∧ KT w w' := by
  obtain ⟨vs, vc, h1, h2, h3⟩ := h
  refine (write_any p vs vc D w h1 n vb b hvb hap hcalls).mono ?_
  rintro e w' ⟨rfl, vc', hd, hf, hk⟩
  subst hE hD
  exact ⟨rfl, DV.fr h2 h3 hd hf (fun k hk' => DevR.foot hk hk'), .of_fr h1 hf⟩

theorem DV.ne (h : DV w₀ w p D) {g : Nat} {c : Array Value} {f : Nat × Nat} (hg : w.heap[g]? = some (.cells c 5 f)) : g ≠ p := by
  obtain ⟨vs, vc, h1, _, _⟩ := h
  rintro rfl
  rw [h1.blk] at hg
  simp at hg

/-- Write of a row that lies at the head of its block -/
theorem writeRow (h : DV w₀ w p D) {n : Int} {g m : Nat} {b : List UInt8} (hg : w.heap[g]? = some (.cells (bys b).toArray 5 (0, 0))) (hm : b.length = m) (hcalls : D.calls < 4611686018427387904) {r : Int} (hE : D.writeE n b.length = r) {D' : Dv} (hD : D.write n b = D') :
    Calls Try.prog 13 #[.pointer (some ⟨p, 0, none⟩), .int .i64 n, .slice (some ⟨g, 0, none⟩) m m] w fun e w' => e = .returned (.int .i64 r) ∧ DV w₀ w' p D' ∧ KT w w' :=
  writeR h (.of_row hg hm) (by simp [Value.ownBlock]; exact h.ne hg) hcalls hE hD

theorem flushR (h : DV w₀ w p D) (hcalls : D.calls < 4611686018427387904) {r : Int} (hE : D.flushE = r) {D' : Dv} (hD : D.flush = D') :
    Calls Try.prog 15 #[.pointer (some ⟨p, 0, none⟩)] w fun e w' => e = .returned (.int .i64 r) ∧ DV w₀ w' p D' ∧ KT w w' := by
  obtain ⟨vs, vc, h1, h2, h3⟩ := h
  refine (flush_any p vs vc D w h1 hcalls).mono ?_
  rintro e w' ⟨rfl, vc', hd, hf, hk⟩
  subst hE hD
  exact ⟨rfl, DV.fr h2 h3 hd hf (fun k hk' => DevR.foot hk hk'), .of_fr h1 hf⟩

theorem pullR (h : DV w₀ w p D) {D' : Dv} (hD : { D with down := true } = D') :
    Calls Try.prog 18 #[.pointer (some ⟨p, 0, none⟩)] w fun e w' => e = .returned (.int .i64 0) ∧ DV w₀ w' p D' ∧ KT w w' := by
  obtain ⟨vs, vc, h1, h2, h3⟩ := h
  refine (pull_any p vs vc D w h1).mono ?_
  rintro e w' ⟨rfl, hd, hf⟩
  subst hD
  have hf' : Fr (Foot p vs vc) w w' := hf.mono fun k _ e => .inl e
  exact ⟨rfl, DV.fr h2 h3 hd hf' (fun k hk' => .inl hk'), .of_fr h1 hf'⟩

theorem planR (h : DV w₀ w p D) {n : Int} (hn : n ≤ 9223372036854775807) {r : Int} (hE : D.planE n = r) {D' : Dv} (hD : D.setPlan n = D') :
    Calls Try.prog 21 #[.pointer (some ⟨p, 0, none⟩), .int .i64 n] w fun e w' => e = .returned (.int .i64 r) ∧ DV w₀ w' p D' ∧ KT w w' := by
  obtain ⟨vs, vc, h1, h2, h3⟩ := h
  refine (plan_any p vs vc D w h1 n hn).mono ?_
  rintro e w' ⟨rfl, hd, hf⟩
  subst hE hD
  have hf' : Fr (Foot p vs vc) w w' := hf.mono fun k _ e => .inl e
  exact ⟨rfl, DV.fr h2 h3 hd hf' (fun k hk' => .inl hk'), .of_fr h1 hf'⟩

theorem downR (h : DV w₀ w p D) {r : Bool} (hE : D.down = r) : Calls Try.prog 22 #[.pointer (some ⟨p, 0, none⟩)] w fun e w' => e = .returned (.bool r) ∧ w = w' := by
  obtain ⟨vs, vc, h1, h2, h3⟩ := h
  subst hE
  exact down_any p vs vc D w h1
theorem callsR (h : DV w₀ w p D) {r : Nat} (hE : D.calls = r) : Calls Try.prog 20 #[.pointer (some ⟨p, 0, none⟩)] w fun e w' => e = .returned (.int .i64 (r : Int)) ∧ w = w' := by
  obtain ⟨vs, vc, h1, h2, h3⟩ := h
  subst hE
  exact calls_any p vs vc D w h1
theorem lenR (h : DV w₀ w p D) {r : Nat} (hE : D.safe.length = r) : Calls Try.prog 28 #[.pointer (some ⟨p, 0, none⟩)] w fun e w' => e = .returned (.int .i64 (r : Int)) ∧ w = w' := by
  obtain ⟨vs, vc, h1, h2, h3⟩ := h
  subst hE
  exact len_any p vs vc D w h1

theorem cachedR (h : DV w₀ w p D) : Calls Try.prog 23 #[.pointer (some ⟨p, 0, none⟩)] w fun e w' => ∃ v, e = .returned v ∧ w'.ownsRow w.heap.size 3 1 v D.cache.length (ints (D.cache.map (·.1))) ∧ DV w₀ w' p D ∧ Below w.heap.size w w' := by
  obtain ⟨vs, vc, h1, h2, h3⟩ := h
  refine (cached_any p vs vc D w h1).mono ?_
  rintro e w' ⟨v, rfl, ho, hb⟩
  exact ⟨v, rfl, ho, DV.below ⟨vs, vc, h1, h2, h3⟩ hb, hb⟩

theorem safeR (h : DV w₀ w p D) (n : Nat) {b : List UInt8} (hb : D.safe[n]? = some b) : Calls Try.prog 24 #[.pointer (some ⟨p, 0, none⟩), .int .i64 (n : Int)] w fun e w' => ∃ v, e = .returned (.tuple #[v, .int .i64 0]) ∧ NewB w w' v b ∧ DV w₀ w' p D := by
  obtain ⟨vs, vc, h1, h2, h3⟩ := h
  refine (safe_any p vs vc D w h1 n b hb).mono ?_
  rintro e w' ⟨v, rfl, hN⟩
  exact ⟨v, rfl, hN, DV.below ⟨vs, vc, h1, h2, h3⟩ hN.2.1⟩

theorem readR (h : DV w₀ w p D) (n : Nat) (hu : D.up n = 0) : Calls Try.prog 16 #[.pointer (some ⟨p, 0, none⟩), .int .i64 (n : Int)] w fun e w' => ∃ v, e = .returned (.tuple #[v, .int .i64 0]) ∧ NewB w w' v (D.read n) ∧ DV w₀ w' p D := by
  obtain ⟨vs, vc, h1, h2, h3⟩ := h
  refine (read_any p vs vc D w h1 n hu).mono ?_
  rintro e w' ⟨v, rfl, hN⟩
  exact ⟨v, rfl, hN, DV.below ⟨vs, vc, h1, h2, h3⟩ hN.2.1⟩

theorem readErrR (h : DV w₀ w p D) {n r : Int} (hu : D.up n = r) (hr : r ≠ 0) : Calls Try.prog 16 #[.pointer (some ⟨p, 0, none⟩), .int .i64 n] w fun e w' => e = .returned (.tuple #[.slice none 0 0, .int .i64 r]) ∧ DV w₀ w' p D ∧ KT w w' := by
  obtain ⟨vs, vc, h1, h2, h3⟩ := h
  subst hu
  refine (read_err p vs vc D w h1 n hr).mono ?_
  rintro e w' ⟨rfl, hb⟩
  exact ⟨rfl, DV.below ⟨vs, vc, h1, h2, h3⟩ hb, .of_below hb⟩

theorem readsR (h : DV w₀ w p D) (n : Nat) (hu : D.up n = 0) {v : Value} {b : List UInt8} (hv : BytesV w v b) {r : Bool} (hr : (D.read n == b) = r) : Calls Try.prog 30 #[.pointer (some ⟨p, 0, none⟩), .int .i64 (n : Int), v] w fun e w' => e = .returned (.bool r) ∧ DV w₀ w' p D ∧ KT w w' := by
  obtain ⟨vs, vc, h1, h2, h3⟩ := h
  subst hr
  refine (reads_any p vs vc D w h1 n hu v b hv).mono ?_
  rintro e w' ⟨rfl, hb⟩
  exact ⟨rfl, DV.below ⟨vs, vc, h1, h2, h3⟩ hb, .of_below hb⟩

theorem restartR (h : DV w₀ w p D) (hdn : D.down = true) (c : Cr) {ak : Option Addr} {l capk : Nat} (hl : c.keep.length = l) (hk : BytesV w (.slice ak l capk) c.keep) (hlen : c.keep.length ≤ 64)
    {t a : Int} (ht : c.torn = t) (ha : c.at_ = a) (ht1 : -9223372036854775808 ≤ c.torn ∧ c.torn < 9223372036854775808) (ht2 : -9223372036854775808 ≤ c.at_ ∧ c.at_ < 9223372036854775808) (hks : c.keep ≠ [] → ∀ a, ak = some a → ∃ cs f, w.heap[a.block]? = some (.cells cs 5 f)) {D' : Dv} (hD : D.restarted c = D') :
    Calls Try.prog 19 #[.pointer (some ⟨p, 0, none⟩), .agg #[.slice ak l capk, .int .i64 t, .int .i64 a]] w fun e w' => e = .returned (.int .i64 0) ∧ DV w₀ w' p D' ∧ KT w w' := by
  obtain ⟨vs, vc, h1, h2, h3⟩ := h
  subst hl hD ht ha
  refine (restart_any p vs vc D w h1 hdn c ak capk hk hlen ht1 ht2 ?_).mono ?_
  · intro hne a ha e
    obtain ⟨cs, f, hc⟩ := hks hne a ha
    rcases h1.safe.2 with ⟨e2, _⟩ | ⟨g, cap, cur, e2, _, hg, _⟩
    · rw [e2] at e; simp [Value.ownBlock] at e
    · rw [e2] at e; simp [Value.ownBlock] at e; subst e; rw [hg] at hc; simp at hc
  · rintro e w' ⟨rfl, hd, hf⟩
    exact ⟨rfl, DV.fr h2 h3 hd hf (fun k hk' => .inl (by
      rcases hk' with e | e | e
      · exact .inl e
      · exact .inr (.inl e)
      · simp [Value.ownBlock] at e)), .of_fr h1 hf⟩

theorem restartUpR (h : DV w₀ w p D) (hdn : D.down = false) (ak : Option Addr) (l c : Nat) (t a : Int) : Calls Try.prog 19 #[.pointer (some ⟨p, 0, none⟩), .agg #[.slice ak l c, .int .i64 t, .int .i64 a]] w fun e w' => e = .returned (.int .i64 2) ∧ DV w₀ w' p D ∧ KT w w' := by
  obtain ⟨vs, vc, h1, h2, h3⟩ := h
  refine (restart_up p vs vc D w h1 hdn ak l c t a).mono ?_
  rintro e w' ⟨rfl, hb⟩
  exact ⟨rfl, DV.below ⟨vs, vc, h1, h2, h3⟩ hb, .of_below hb⟩

theorem DV.set5 (h : DV w₀ w p D) {g i : Nat} {c : Array Value} {f : Nat × Nat} (hg : w.heap[g]? = some (.cells c 5 f)) (hb : w₀.heap.size ≤ g) (v : Value) : DV w₀ (w.setCell ⟨g, i, none⟩ v) p D := by
  obtain ⟨vs, vc, h1, h2, h3⟩ := h
  have hf : ¬ Foot p vs vc g := by
    rintro (rfl | e | e)
    · rw [h1.blk] at hg; simp at hg
    · rcases h1.safe.2 with ⟨e2, _⟩ | ⟨g, cap, cur, e2, _, hg', _⟩
      · rw [e2] at e; simp [Value.ownBlock] at e
      · rw [e2] at e; simp [Value.ownBlock] at e; subst e; rw [hg'] at hg; simp at hg
    · rcases h1.cache.2 with ⟨e2, _⟩ | ⟨g, cap, cur, e2, _, hg', _⟩
      · rw [e2] at e; simp [Value.ownBlock] at e
      · rw [e2] at e; simp [Value.ownBlock] at e; subst e; rw [hg'] at hg; simp at hg
  have hf2 : Fr (fun k => k = g) w (w.setCell ⟨g, i, none⟩ v) := Fr.one w g i v
  exact ⟨vs, vc, h1.fr hf2 (fun k hk e => hf (e ▸ hk)), h2, h3.setCell (p := ⟨g, i, none⟩) hb _⟩

theorem newRow_form {w' : World} {base : Nat} {e : TypeId} {v : Value} {n : Nat} {xs : List Value} (h : w'.ownsRow base e 1 v n xs) (hn : 0 < n) : ∃ g cap cur, v = .slice (some ⟨g, 0, none⟩) n cap ∧ base ≤ g ∧ w'.heap[g]? = some (.cells cur e (0, 0)) ∧ ∀ j, j < n → cur[j]? = xs[j]? := by
  rcases h.2 with ⟨_, e0⟩ | ⟨g, cap, cur, e1, hb, hg, h1, h2, h3, h4⟩
  · omega
  · refine ⟨g, cap, cur, e1, hb, hg, fun j hj => ?_⟩
    rw [← h4, List.getElem?_take, if_pos (by omega)]
    simp
end
end Go.Proofs.Ytbmankbbkemkcaa
