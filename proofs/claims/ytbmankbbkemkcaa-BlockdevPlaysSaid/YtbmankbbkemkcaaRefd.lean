/- The document's device: Put. -/
import Derived.Test.YtbmankbbkemkcaaRefc
namespace Go.Proofs.Ytbmankbbkemkcaa
open Go.RowKit Go.Shelf Go.Maps

/-- the document's device's blocks -/
def RS (r mb : Nat) (vc : Value) (k : Nat) : Prop := k = r ∨ k = mb ∨ vc.ownBlock = some k

theorem rcells_snoc : ∀ (L : List (Nat × List UInt8)) (Vs : List Value) (x : Nat × List UInt8) (v : Value), Vs.length = L.length → rcells (L ++ [x]) (Vs ++ [v]) = rcells L Vs ++ [.int .i64 (x.1 : Int), v]
  | [], [], _, _, _ => rfl
  | [], _ :: _, _, _, h => by cases h
  | _ :: _, [], _, _, h => by cases h
  | y :: L, u :: Vs, x, v, h => by
    have := rcells_snoc L Vs x v (by simpa using h)
    simp [rcells, this]

section
variable {w₀ w : World} {r mb n : Nat} {vc : Value} {Vs : List Value} {F : Nat → Option Value} {D : Dv}

theorem RefAt.type59 (h : RefAt w₀ w r mb n vc Vs F D) {k : Nat} (hk : vc.ownBlock = some k) : ∃ c, w.heap[k]? = some (.cells c 59 (0, 0)) := by
  rcases h.cache.2 with ⟨e2, _⟩ | ⟨g, cap, cur, e2, _, hg', _⟩
  · rw [e2] at hk; simp [Value.ownBlock] at hk
  · rw [e2] at hk; simp [Value.ownBlock] at hk; subst hk; exact ⟨_, hg'⟩
theorem RefAt.mapBlk (h : RefAt w₀ w r mb n vc Vs F D) : ∃ es cl, w.heap[mb]? = some (.map es cl) := by
  obtain ⟨Dm, ⟨es, clock, hb, _⟩, _⟩ := h.map
  exact ⟨es, clock, hb⟩

theorem RefAt.push (h : RefAt w₀ w r mb n vc Vs F D) {W1 Wa W2 : World} {v1 v2 : Value} {b : List UInt8} {i : Nat} (hg1 : w.grownBy W1 none) (hh : Held w₀ W1 v1 b) (hb : Below W1.heap.size W1 Wa) (hown : W2.ownsRow w₀.heap.size 59 2 v2 (D.cache.length + 1) (rcells D.cache Vs ++ [.int .i64 (i : Int), v1])) (hg2 : Wa.grownBy W2 vc.ownBlock) :
    RefAt w₀ (W2.setCell ⟨r, 2, none⟩ v2) r mb n v2 (Vs ++ [v1]) F { D with cache := D.cache ++ [(i, b)] } ∧ Fr (RS r mb vc) w (W2.setCell ⟨r, 2, none⟩ v2) := by
  have f1 : Fr (fun _ => False) w Wa := ((Fr.refl _ w).grown hg1 (fun k hk => by cases hk)).trans (Fr.of_below hb _)
  have f2 : Fr (fun k => vc.ownBlock = some k) w W2 := (f1.mono fun _ _ e => e.elim).grown hg2 (fun k hk => .inl hk)
  have f3 : Fr (RS r mb vc) w (W2.setCell ⟨r, 2, none⟩ v2) := (f2.mono fun k _ e => .inr (.inr e)).setCell (p := ⟨r, 2, none⟩) (.inl (.inl rfl)) v2
  have far : ∀ (k : Nat) (o : Obj), w.heap[k]? = some o → (∀ c f, o ≠ .cells c 59 f) → W2.heap[k]? = some o := fun k o hk ho => (f2.block k (Array.getElem?_eq_some_iff.1 hk).1 (fun e => by
    obtain ⟨c, hc⟩ := h.type59 e
    rw [hk] at hc; exact ho c (0, 0) (Option.some.inj hc))).trans hk
  have hr2 := far r _ h.blk (fun c f e => by cases e)
  have keep : ∀ {e : TypeId} {s : Nat} {v : Value} {m : Nat} {xs : List Value}, e ≠ 57 → W2.ownsRow w₀.heap.size e s v m xs → (W2.setCell ⟨r, 2, none⟩ v2).ownsRow w₀.heap.size e s v m xs := fun he ho => own_fr ho (Fr.one W2 r 2 v2) (fun k hk e2 => by
    subst e2
    rcases ho.2 with ⟨e3, _⟩ | ⟨g, cap, cur, e3, _, hg, _⟩
    · rw [e3] at hk; simp [Value.ownBlock] at hk
    · rw [e3] at hk; simp [Value.ownBlock] at hk; subst hk; rw [hr2] at hg; simp at hg; exact he hg.2.symm)
  have own5 : ∀ {v : Value} {m : Nat} {xs : List Value}, w.ownsRow w₀.heap.size 5 1 v m xs → W2.ownsRow w₀.heap.size 5 1 v m xs := fun ho => by
    rcases ho with ⟨hl, he | ⟨g, cap, cur, e2, hb', hg, rr⟩⟩
    · exact ⟨hl, .inl he⟩
    · exact ⟨hl, .inr ⟨g, cap, cur, e2, hb', far g _ hg (fun c f e => by cases e), rr⟩⟩
  have h1 : W2.ownsRow w₀.heap.size 5 1 v1 128 (bys b) := by
    rcases hh.1 with ⟨hl, he | ⟨g, cap, cur, e2, hb', hg, rr⟩⟩
    · exact ⟨hl, .inl he⟩
    · refine ⟨hl, .inr ⟨g, cap, cur, e2, hb', ?_, rr⟩⟩
      have ha : Wa.heap[g]? = some (.cells cur 5 (0, 0)) := (hb.block g (Array.getElem?_eq_some_iff.1 hg).1).trans hg
      refine (hg2.block g (Array.getElem?_eq_some_iff.1 ha).1 (fun e => ?_)).trans ha
      obtain ⟨c, hc⟩ := h.type59 e.symm
      have := (f1.block g (Array.getElem?_eq_some_iff.1 hc).1 (fun e => e)).trans hc
      rw [ha] at this; simp at this
  refine ⟨⟨blk_set hr2 rfl, h.map.kept (fun o ho => ?_), fun j b' hj => ?_, ?_, by simp [h.lens], fun k x v hx hv => ?_, h.lr, h.lm⟩, f3⟩
  · have h2 := far mb o ho (fun c f e => by
      obtain ⟨es, cl, hm⟩ := h.mapBlk
      rw [hm, e] at ho; cases ho)
    exact ((Fr.one W2 r 2 v2).block mb (Array.getElem?_eq_some_iff.1 h2).1 (fun e => by
      obtain ⟨es, cl, hm⟩ := h.mapBlk
      rw [e, h.blk] at hm; cases hm)).trans h2
  · rcases h.ent j b' hj with e | ⟨v, hv, ho⟩
    · exact .inl e
    · exact .inr ⟨v, hv, keep (by decide) (own5 ho.1), ho.2⟩
  · show World.ownsRow _ _ _ _ _ (D.cache ++ [(i, b)]).length (rcells (D.cache ++ [(i, b)]) (Vs ++ [v1]))
    rw [List.length_append, List.length_singleton, rcells_snoc _ _ _ _ h.lens]
    exact keep (by decide) hown
  · rcases Nat.lt_or_ge k D.cache.length with hk | hk
    · rw [List.getElem?_append_left hk] at hx
      rw [List.getElem?_append_left (by rw [h.lens]; exact hk)] at hv
      have := h.held k x v hx hv
      exact ⟨keep (by decide) (own5 this.1), this.2⟩
    · have hk2 : k = D.cache.length := by
        have := (List.getElem?_eq_some_iff.1 hx).1
        simp at this; omega
      subst hk2
      rw [List.getElem?_append_right (Nat.le_refl _)] at hx
      rw [List.getElem?_append_right (by rw [h.lens]; exact Nat.le_refl _), h.lens] at hv
      simp at hx hv
      subst hx hv
      exact ⟨keep (by decide) h1, hh.2⟩

theorem info59 : (Try.prog.info? 59).map (fun i => (i.zero, i.size, i.bytes)) = some (some (.agg #[.int .i64 0, nilS]), 2, 32) := by kernel_rfl

set_option maxRecDepth 100000 in
set_option maxHeartbeats 8000000 in
/-- the paths of Put that count -/
theorem refPut_in (h : RefAt w₀ w r mb n vc Vs F D) (hb0 : w₀.heap.size ≤ w.heap.size) {i : Nat} (h1 : D.down = false) (h3 : i < D.safe.length) {ad : Addr} {cap : Nat} {b : List UInt8} (hvb : BytesV w (.slice (some ad) 128 cap) b) (hbl : b.length = 128) (hful : D.cache.length < 256) (hcalls : D.calls < 4611686018427387904) (hpl : D.plan ≤ 9223372036854775807) {x : Int} (hx : (if D.plan = 1 then 120 else 0) = x) {D' : Dv} (hD' : ({ D with cache := D.cache ++ [(i, b)] } : Dv).tick = D') :
    Calls Try.prog 55 #[.pointer (some ⟨r, 0, none⟩), .int .i64 (i : Int), .slice (some ad) 128 cap] w fun e w' => e = .returned (.int .i64 x) ∧ (∃ vc' cap1, RefAt w₀ w' r mb n vc' (Vs ++ [.slice (some ⟨w.heap.size, 0, none⟩) 128 cap1]) F D') ∧ Fr (RS r mb vc) w w' := by
  obtain ⟨hp, c0, c1, c2, c3, c4, c5, fz⟩ := blk6 h.blk
  rw [h1] at c4
  obtain ⟨ao, cc, rfl, _⟩ := h.cacheForm
  have hseg : ∀ j u, (bys b)[j]? = some u → w.cell? (ad.add j) = some u := by
    rcases hvb with ⟨ad', cap', e, _, hs⟩ | ⟨e, _⟩
    · simp at e; obtain ⟨rfl, _⟩ := e; exact hs
    · cases e
  have hrow := h.cache
  have hful' : ¬ (256 : Int) ≤ (D.cache.length : Int) := by omega
  have nr : (Value.slice ao D.cache.length cc).ownBlock ≠ some r := fun e => by obtain ⟨c, hc⟩ := h.type59 e; rw [h.blk] at hc; simp at hc
  obtain ⟨i5, q0, q1, q2, q3⟩ := info5'
  obtain ⟨i9, y0, y1, y2, y3⟩ := info_parts info59
  have c2' := World.new_ne w _ c2
  have h128 : (bys b).length = 128 * 1 := by rw [bys_length, hbl]
  have hnil : w.ownsRow w₀.heap.size 5 1 nilS 0 [] := ⟨rfl, .inl ⟨rfl, rfl⟩⟩
  have H := Lib.hid h
  have HS := Lib.hid hseg
  have HR : Hid (w.drew.ownsRow w₀.heap.size 59 2 (.slice ao D.cache.length cc) D.cache.length (rcells D.cache Vs)) := hrow
  have HN := Lib.hid (And.intro hnil h128)
  have HXD := Lib.hid (And.intro hx hD')
  clear h hseg hvb hrow hnil h128 hx hD'
  go_enter Try.func55, Try.ntmps55
  go_wp2_with (first | (go_at_call 75; refine (place_in H.out (by omega) (by omega)).mono ?_; rintro e w1 ⟨rfl, rfl⟩))
  go_region_law (first
    | ((refine step_append_lies _ (by rfl) _ _ _ (by rfl) w₀.heap.size 5 i5 _ 1 1 Try.underlying23 q0 q1 q2 q3 rfl (by omega) nilS 0 [] (by rfl) HN.out.1 ad 128 cap (bys b) (by rfl) HN.out.2 HS.out (one_bys b) (by omega) (by decide) (by decide) hb0 w.heap.size rfl ?_; intro g1 cap1 w1 hown1 hgrow1 hat1 hlt1; have k2 := (hgrow1.cell_far ⟨r, 2, none⟩ hp (by simp [Value.ownBlock])).trans c2; have k2' := World.new_ne w1 _ k2; have k2b : ∀ o : Obj, (w1.alloc o).cell? ⟨r, 2, none⟩ = some (.slice ao D.cache.length cc) := fun o => (Below.cell (p := ⟨r, 2, none⟩) ((Below.refl w1.heap.size w1).alloc (Nat.le_refl _) o) (Nat.lt_of_lt_of_le hp hgrow1.size)).trans k2; have k3 := (hgrow1.frozen_far ⟨r, 2, none⟩ hp (by simp [Value.ownBlock])).trans (fz 2)))
    | ((refine step_append_lies _ (by rfl) _ _ _ (by rfl) w₀.heap.size 59 i9 _ 2 32 Try.underlying55 y0 y1 y2 y3 rfl (by omega) (.slice ao D.cache.length cc) D.cache.length (rcells D.cache Vs) (by rfl) ((HR.out.kept hgrow1 (Classical.em _)).alloc _) ⟨w1.heap.size, 0, none⟩ 1 1 [.int .i64 (i : Int), .slice (some ⟨g1, 0, none⟩) 128 cap1] (by rfl) (by rfl) (World.news_of_block (cs := #[.int .i64 (i : Int), .slice (some ⟨g1, 0, none⟩) 128 cap1]) (t := 59) (fr := (0, 0)) (heap_alloc_new w1 _)) (by simp [Value.oneCell']) (by omega) (by unfold maxLen; omega) (by omega) (Nat.le_trans hb0 (Nat.le_trans hgrow1.size ((Below.refl w1.heap.size w1).alloc (Nat.le_refl _) _).size)) (w1.heap.size + 1) (by simp) ?_; intro g2 cap2 w2 hown2 hgrow2 hat2 hlt2; have lr := Nat.lt_of_lt_of_le hp (Nat.le_trans hgrow1.size ((Below.refl w1.heap.size w1).alloc (Nat.le_refl _) (.cells #[.int .i64 (i : Int), .slice (some ⟨g1, 0, none⟩) 128 cap1] 59)).size); have k4 := (hgrow2.cell_far ⟨r, 2, none⟩ lr (Ne.symm nr)).trans ((Below.cell (p := ⟨r, 2, none⟩) ((Below.refl w1.heap.size w1).alloc (Nat.le_refl _) _) (Nat.lt_of_lt_of_le hp hgrow1.size)).trans k2); have k5 := (hgrow2.frozen_far ⟨r, 2, none⟩ lr (Ne.symm nr)).trans ((Below.frozen (p := ⟨r, 2, none⟩) ((Below.refl w1.heap.size w1).alloc (Nat.le_refl _) _) (Nat.lt_of_lt_of_le hp hgrow1.size)).trans k3))))
  all_goals
    have hg1 : g1 = w.heap.size := hat1.elim (fun e => by cases e) (fun e => e)
    have HG1 := Lib.hid hg1
    obtain ⟨hR, hFr⟩ := H.out.push (b := b) (i := i) (v1 := .slice (some ⟨g1, 0, none⟩) 128 cap1) ⟨hgrow1.os, hgrow1.tape, hgrow1.output, hgrow1.size, hgrow1.block⟩ ⟨hown1, hbl⟩ ((Below.refl w1.heap.size w1).alloc (Nat.le_refl _) _) hown2 hgrow2
    have HR2 := Lib.hid hR
    have HF2 := Lib.hid hFr
    clear hg1 hR hFr hown1 hgrow1 hat1 hlt1 k2 k2' k2b k3 hown2 hgrow2 hat2 hlt2 lr k4 k5
    go_wp2_with (go_at_call 76; refine (counts_any HR2.out hcalls hpl).mono ?_; rintro e w4 ⟨rfl, hR, hF⟩; have HR4 := Lib.hid hR; have HF4 := Lib.hid hF; clear hR hF; cases hpb : (D.plan == 1))
    all_goals
      go_ret
      exact ⟨by rw [← HXD.out.1]; by_cases hq : D.plan = 1 <;> simp [hq] at hpb ⊢, ⟨_, cap1, by rw [← HXD.out.2, ← HG1.out]; exact HR4.out⟩, HF2.out.trans' (HF4.out.mono fun k _ e => .inl e)⟩
end
end Go.Proofs.Ytbmankbbkemkcaa
