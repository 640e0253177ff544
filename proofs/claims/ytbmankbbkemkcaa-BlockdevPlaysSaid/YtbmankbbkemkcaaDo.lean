/- BlockdevPlays: one call of both devices. -/
import Derived.Test.YtbmankbbkemkcaaDevo
import Derived.Test.YtbmankbbkemkcaaByte
namespace Go.Proofs.Ytbmankbbkemkcaa
open Go.RowKit Go.Shelf Go.Maps

/-- what is of neither device is kept -/
def KX (w w' : World) : Prop := ∀ (k : Nat) (c : Array Value) (t : TypeId) (f : Nat × Nat), w.heap[k]? = some (Obj.cells c t f) → t ≠ 67 → t ≠ 83 → t ≠ 85 → t ≠ 57 → t ≠ 59 → w'.heap[k]? = some (Obj.cells c t f)
theorem KO.kx {w w' : World} (h : KO w w') : KX w w' := fun k _ _ _ hk h1 h2 h3 _ _ => h k _ hk (notDev_cells h1 h2 h3)
theorem KX.trans {a b c : World} (h : KX a b) (k : KX b c) : KX a c := fun i x t f hi h1 h2 h3 h4 h5 => k i x t f (h i x t f hi h1 h2 h3 h4 h5) h1 h2 h3 h4 h5
theorem RefAt.kx {w₀ w W : World} {r mb n : Nat} {vc : Value} {Vs : List Value} {F : Nat → Option Value} {Dr : Dv} (hr : RefAt w₀ w r mb n vc Vs F Dr) (hf : Fr (RS r mb vc) w W) : KX w W := fun _ _ _ _ hk _ _ _ h4 h5 => hr.other hf hk h4 h5
theorem KX.of_below {w w' : World} (h : Below w.heap.size w w') : KX w w' := (KO.of_below h).kx

/-- a row that is none of the document's device's turns -/
theorem RefAt.spare {w₀ w W : World} {r mb n g : Nat} {vc : Value} {Vs : List Value} {F : Nat → Option Value} {D : Dv} (h : RefAt w₀ w r mb n vc Vs F D) {c : Array Value} {f : Nat × Nat} (hg : w.heap[g]? = some (.cells c 5 f)) (hf : Fr (fun k => k = g) w W) (h1 : ∀ (i : Nat) (v : Value), i < D.safe.length → F i = some v → v.ownBlock ≠ some g) (h2 : ∀ v ∈ Vs, v.ownBlock ≠ some g) : RefAt w₀ W r mb n vc Vs F D := by
  have far : ∀ (k : Nat) (o : Obj), w.heap[k]? = some o → k ≠ g → W.heap[k]? = some o := fun k o hk hne => (hf.block k (Array.getElem?_eq_some_iff.1 hk).1 hne).trans hk
  have own : ∀ {e : TypeId} {s : Nat} {v : Value} {m : Nat} {xs : List Value}, v.ownBlock ≠ some g → w.ownsRow w₀.heap.size e s v m xs → W.ownsRow w₀.heap.size e s v m xs := fun hne ho => own_fr ho hf (fun k hk e => hne (by rw [hk, e]))
  refine ⟨far r _ h.blk (fun e => by rw [← e, h.blk] at hg; simp at hg), h.map.kept (fun o ho => far mb o ho (fun e => ?_)), fun i b hi => ?_, own (fun e => ?_) h.cache, h.lens, fun k x v hx hv => ?_, h.lr, h.lm⟩
  · obtain ⟨es, cl, hm⟩ := h.mapBlk
    rw [← e, hm] at hg; cases hg
  · rcases h.ent i b hi with e | ⟨v, hv, ho⟩
    · exact .inl e
    · exact .inr ⟨v, hv, own (h1 i v (List.getElem?_eq_some_iff.1 hi).1 hv) ho.1, ho.2⟩
  · obtain ⟨c', hc⟩ := h.type59 e
    rw [hc] at hg; simp at hg
  · have := h.held k x v hx hv
    exact ⟨own (h2 v (List.mem_of_getElem? hv)) this.1, this.2⟩

/-- the document's device's rows are old -/
theorem RefAt.oldF {w₀ w : World} {r mb n : Nat} {vc : Value} {Vs : List Value} {F : Nat → Option Value} {D : Dv} (h : RefAt w₀ w r mb n vc Vs F D) {g : Nat} (hg : w.heap.size ≤ g) : (∀ (i : Nat) (v : Value), i < D.safe.length → F i = some v → v.ownBlock ≠ some g) ∧ (∀ v ∈ Vs, v.ownBlock ≠ some g) := by
  refine ⟨fun i v hi hv e => ?_, fun v hv e => ?_⟩
  · rcases h.ent i D.safe[i] (by simp [hi]) with ⟨e1, _⟩ | ⟨u, hu, ho⟩
    · rw [e1] at hv; cases hv
    · rw [hu] at hv
      obtain rfl := Option.some.inj hv
      have := (ho.1.lt g e).2; omega
  · obtain ⟨k, hk, rfl⟩ := List.getElem_of_mem hv
    have hx : D.cache[k]? = some (D.cache[k]'(by rw [← h.lens]; exact hk)) := by simp
    have := (h.held k _ Vs[k] hx (by simp)).1.lt g e
    omega

structure OpB (w₀ : World) (o : OpX) : Prop where
  ok : o.Ok w₀
  keep : o.x.c.keep.length ≤ 64
  len : o.x.len ≤ 300
theorem OpB.old {w₀ : World} {o : OpX} (h : OpB w₀ o) : o.x.c.keep ≠ [] → ∀ a, o.ak = some a → a.block < w₀.heap.size := fun hne a ha => by
  rcases h.ok.keep with ⟨ad, cap, e, hl, _⟩ | ⟨_, e⟩
  · simp at e; rw [e.1] at ha; cases ha
    exact hl.resolve_left hne
  · exact absurd e hne

/-- both devices -/
def Pl (w₀ w : World) (p q r mb N : Nat) (D E : Dv) : Prop := Two w₀ w p q D E ∧ RefE w₀ w r mb N D

theorem Two.wf {w₀ w : World} {p q : Nat} {D E : Dv} (h : Two w₀ w p q D E) : (∀ b ∈ D.safe, b.length = 128) ∧ (∀ x ∈ D.cache, x.2.length = 128 ∧ x.1 < D.safe.length) ∧ D.safe.length ≤ 65536 ∧ 0 < D.safe.length ∧ D.cache.length ≤ 256 ∧ D.plan ≤ 9223372036854775807 := by
  obtain ⟨vs, vc, us, uc, h1, _⟩ := h
  exact ⟨h1.lens, h1.lenc, h1.most, h1.pos, h1.full, h1.plan⟩

/-- what a call leaves -/
def DoR (w₀ w : World) (p q r mb N : Nat) (D E : Dv) (w' : World) : Prop := ∃ D' : Dv, Two w₀ w' p q D' E ∧ RefE w₀ w' r mb (N + 256) D' ∧ D'.calls ≤ D.calls + 1 ∧ D'.safe.length = D.safe.length ∧ KX w w'

theorem flush_len (D : Dv) : D.flush.safe.length = D.safe.length ∧ D.flush.calls ≤ D.calls + 1 := by
  have ht : ∀ X : Dv, X.tick.safe = X.safe ∧ X.tick.calls = X.calls + 1 := fun X => by
    unfold Dv.tick; split <;> exact ⟨rfl, rfl⟩
  unfold Dv.flush
  split
  · exact ⟨rfl, by omega⟩
  · split
    · rw [(ht _).1, (ht _).2]; exact ⟨rfl, Nat.le_refl _⟩
    · rw [(ht _).1, (ht _).2]; exact ⟨fold_len _ _, Nat.le_refl _⟩
theorem plan_len (D : Dv) (n : Int) : (D.setPlan n).safe.length = D.safe.length ∧ (D.setPlan n).calls ≤ D.calls + 1 := by
  unfold Dv.setPlan
  split
  · exact ⟨rfl, by omega⟩
  · split <;> exact ⟨rfl, by show D.calls ≤ _; omega⟩
theorem write_len (D : Dv) (n : Int) (b : List UInt8) : (D.write n b).safe.length = D.safe.length ∧ (D.write n b).calls ≤ D.calls + 1 := by
  unfold Dv.write Dv.tick
  split
  · exact ⟨rfl, by omega⟩
  · split <;> exact ⟨rfl, Nat.le_refl _⟩

section
variable {w₀ w : World} {p q r mb N : Nat} {D E : Dv}

set_option maxRecDepth 100000 in
set_option maxHeartbeats 1000000 in
theorem do_flush (h : Two w₀ w p q D E) (hr : RefE w₀ w r mb N D) (hcalls : D.calls < 4611686018427387904) (hN : N + 256 < maxLen) (v1 v2 v3 v4 v5 v6 : Value) : Calls Try.prog 26 #[.pointer (some ⟨p, 0, none⟩), .pointer (some ⟨r, 0, none⟩), .agg #[.int .i64 1, v1, v2, v3, v4, v5, v6]] w fun e w' => e = .returned (.bool true) ∧ DoR w₀ w p q r mb N D E w' := by
  obtain ⟨n, vc, Vs, F, hn, hR⟩ := hr
  have hb1 : Below w.heap.size w (w.alloc (.cells #[.int .i64 1, v1, v2, v3, v4, v5, v6] 34)) := (Below.refl _ w).alloc (Nat.le_refl _) _
  have HT := Lib.hid (h.below hb1)
  have HR := Lib.hid (hR.ko (.of_below hb1))
  have HK := Lib.hid (KX.of_below hb1)
  have hwf := h.wf
  have HL := Lib.hid (flush_len D)
  obtain ⟨x, hx⟩ : ∃ x, D.flushE = x := ⟨_, rfl⟩
  obtain ⟨D', hD'⟩ : ∃ D', D.flush = D' := ⟨_, rfl⟩
  have HX := Lib.hid (And.intro hx (And.intro hD' hwf))
  clear hb1 h hR hwf hx hD'
  go_enter Try.func26, Try.ntmps26
  go_wp2_with (first
    | (go_at_call 15; refine (flushO HT.out hcalls HX.out.1 HX.out.2.1).mono ?_; rintro e w2 ⟨rfl, hT, hko⟩; have HT := Lib.hid hT; have HR := Lib.hid (HR.out.ko hko); have HK := Lib.hid (HK.out.trans hko.kx); clear hT hko)
    | (go_at_call 56; refine (refFlush_any HR.out hcalls HX.out.2.2.2.2.2.2.2 HX.out.2.2.2.2.2.2.1 HX.out.2.2.2.1 HX.out.2.2.2.2.1 (by omega) HX.out.1 HX.out.2.1).mono ?_; rintro e w3 ⟨rfl, hR, hF⟩; have HT := Lib.hid (HT.out.ref HR.out hF); have HK := Lib.hid (HK.out.trans (HR.out.kx hF)); have HR := Lib.hid hR; clear hR hF))
  go_ret
  obtain ⟨n', vc', Vs', F', hn', hR'⟩ := HR.out
  exact ⟨rfl, D', HT.out, ⟨n', vc', Vs', F', by omega, hR'⟩, by rw [← HX.out.2.1]; exact HL.out.2, by rw [← HX.out.2.1]; exact HL.out.1, HK.out⟩
end
end Go.Proofs.Ytbmankbbkemkcaa
