/- The document's device: At, place, counts, SetPlan, New. -/
import Derived.Test.YtbmankbbkemkcaaRefm
namespace Go.Proofs.Ytbmankbbkemkcaa
open Go.RowKit Go.Shelf Go.Maps

section
variable {w₀ w : World} {r mb n : Nat} {vc : Value} {Vs : List Value} {F : Nat → Option Value} {D : Dv}

theorem place_in (h : RefAt w₀ w r mb n vc Vs F D) {i : Int} (h1 : 0 ≤ i) (h2 : i < D.safe.length) : Calls Try.prog 75 #[.pointer (some ⟨r, 0, none⟩), .int .i64 i] w fun e w' => e = .returned (.bool true) ∧ w = w' := by
  obtain ⟨hp, c0, c1, c2, c3, c4, c5, fz⟩ := blk6 h.blk
  clear h
  go_enter Try.func75, Try.ntmps75
  go_wp2
  go_ret
  exact ⟨rfl, rfl⟩
theorem place_out (h : RefAt w₀ w r mb n vc Vs F D) {i : Int} (h1 : i < 0 ∨ (D.safe.length : Int) ≤ i) : Calls Try.prog 75 #[.pointer (some ⟨r, 0, none⟩), .int .i64 i] w fun e w' => e = .returned (.bool false) ∧ w = w' := by
  obtain ⟨hp, c0, c1, c2, c3, c4, c5, fz⟩ := blk6 h.blk
  clear h
  by_cases h2 : 0 ≤ i
  · have h3 : (D.safe.length : Int) ≤ i := by omega
    have h4 : decide (i < (D.safe.length : Int)) = false := decide_eq_false (by omega)
    clear h1
    go_enter Try.func75, Try.ntmps75
    go_wp2
    go_ret
    exact ⟨rfl, rfl⟩
  · clear h1
    go_enter Try.func75, Try.ntmps75
    go_wp2
    go_ret
    exact ⟨rfl, rfl⟩

def lenOf : Value → Nat | .slice _ n _ => n | _ => 0

set_option maxRecDepth 100000 in
set_option maxHeartbeats 1000000 in
theorem at_any (h : RefAt w₀ w r mb n vc Vs F D) (i : Nat) (hi : i < 65536) (b : List UInt8) (hb : D.safe[i]? = some b) : Calls Try.prog 27 #[.pointer (some ⟨r, 0, none⟩), .int .i64 (i : Int)] w fun e w' => ∃ g cap, e = .returned (.slice (some ⟨g, 0, none⟩) 128 cap) ∧ w'.ownsRow w.heap.size 5 1 (.slice (some ⟨g, 0, none⟩) 128 cap) 128 (bys b) ∧ Below w.heap.size w w' := by
  obtain ⟨hp, c0, c1, c2, c3, c4, c5, fz⟩ := blk6 h.blk
  have hlk := h.map.look hi
  have he := h.ent i b hb
  obtain ⟨i0, q0, q1, q2, q3⟩ := info5'
  clear h
  rcases he with ⟨e1, rfl⟩ | ⟨v, e1, hv⟩
  · rw [e1] at hlk
    simp only [Option.getD_none] at hlk
    go_enter Try.func27, Try.ntmps27
    go_wp2
    go_loopw [6] (fun v wr => ∃ k : Nat, k ≤ 128 ∧ ∃ ao cp, v = .slice ao k cp ∧ wr.ownsRow w.heap.size 5 1 (.slice ao k cp) k (bys (List.replicate k 0)) ∧ Below w.heap.size w wr) (fun v _ => 128 - lenOf v)
    case atStart => exact ⟨0, Nat.zero_le _, none, 0, rfl, ⟨rfl, .inl ⟨rfl, rfl⟩⟩, Below.refl _ _⟩
    case round =>
      obtain ⟨k, hk, ao, cp, rfl, hown, hbel⟩ := hrel
      rcases Nat.lt_or_ge k 128 with hlt | hge
      · have hbel9 : Below wr.heap.size wr (wr.alloc (.cells #[.int .u8 0] 5)) := (Below.refl _ _).alloc (Nat.le_refl _) _
        have hown5 := own_fr hown (Fr.of_below hbel9 (fun _ => False)) (fun _ _ e => e)
        have HO5 : Hid ((wr.alloc (.cells #[.int .u8 0] 5)).ownsRow w.heap.size 5 1 (.slice ao k cp) k (bys (List.replicate k 0)) ∧ (∀ i u, [Value.int .u8 0][i]? = some u → (wr.alloc (.cells #[.int .u8 0] 5)).cell? ((⟨wr.heap.size, 0, none⟩ : Addr).add i) = some u) ∧ (∀ u ∈ [Value.int .u8 0], u.oneCell' = true) ∧ k + 1 ≤ maxLen ∧ (k + 1) * 1 ≤ 140737488355328 ∧ w.heap.size ≤ (wr.alloc (.cells #[.int .u8 0] 5)).heap.size) :=
          ⟨hown5, World.news_of_block (cs := #[.int .u8 0]) (t := 5) (fr := (0, 0)) (heap_alloc_new wr _), by simp [Value.oneCell'], by unfold maxLen; omega, by omega, Nat.le_trans hbel.size hbel9.size⟩
        have HB := Lib.hid hbel
        have HL := Lib.hid hown.lt
        clear hown hbel hown5 hbel9
        go_wp2_with (at_builtin; refine wpList_append_lies _ rfl _ _ 23 rfl w.heap.size 5 i0 (.int .u8 0) 1 1 Try.underlying23 q0 q1 q2 q3 rfl (by decide) (.slice ao k cp) k _ rfl HO5.out.1 ⟨wr.heap.size, 0, none⟩ 1 1 [.int .u8 0] rfl rfl HO5.out.2.1 HO5.out.2.2.1 (by decide) HO5.out.2.2.2.1 HO5.out.2.2.2.2.1 HO5.out.2.2.2.2.2 _ rfl ?_; intro g cap w9 hown9 hgrow hat hlt9)
        have hB9 : Below w.heap.size w w9 := (HB.out.alloc HB.out.size _).grown hgrow HO5.out.2.2.2.2.2 (fun j hj => (HL.out j hj).1)
        refine ⟨⟨k + 1, by omega, some ⟨g, 0, none⟩, cap, rfl, ?_, hB9⟩, by simp [lenOf]; omega⟩
        rw [List.replicate_succ', show bys (List.replicate k (0 : UInt8) ++ [0]) = bys (List.replicate k 0) ++ [.int .u8 0] by simp [bys]]
        exact hown9
      · have hk128 : k = 128 := by omega
        have HO := Lib.hid hown
        have HK := Lib.hid hk128
        clear hown hk128
        go_wp2
        go_ret
        have h1 := HO.out
        rw [HK.out] at h1
        obtain ⟨g, cap, e, _, _⟩ := h1.form (by omega)
        rw [HK.out]
        rw [e] at h1 ⊢
        exact ⟨g, cap, rfl, h1, hbel⟩
  · rw [e1] at hlk
    simp only [Option.getD_some] at hlk
    obtain ⟨g, cap, rfl, hg0, hg⟩ := hv.1.form (by omega)
    have hseg : ∀ j u, (bys b)[j]? = some u → w.cell? ((⟨g, 0, none⟩ : Addr).add j) = some u := fun j u hj => hv.1.cells (g := g) rfl j u hj
    have HS := Lib.hid hseg
    have HL := Lib.hid hv.2
    have HB : Hid ((bys b).length = 128 * 1 ∧ (0 + 128 ≤ maxLen) ∧ ((0 + 128) * 1 ≤ 140737488355328)) := ⟨by rw [bys_length, HL.out], by decide, by decide⟩
    have hnil : w.ownsRow w.heap.size 5 1 nilS 0 [] := ⟨rfl, .inl ⟨rfl, rfl⟩⟩
    have HN := Lib.hid hnil
    clear hseg hv hnil hb
    go_enter Try.func27, Try.ntmps27
    go_wp2_with (at_builtin; refine wpList_append_lies _ rfl _ _ 23 rfl w.heap.size 5 i0 (.int .u8 0) 1 1 Try.underlying23 q0 q1 q2 q3 rfl (by decide) nilS 0 [] rfl HN.out ⟨g, 0, none⟩ 128 cap (bys b) rfl HB.out.1 HS.out (one_bys b) (by decide) HB.out.2.1 HB.out.2.2 (Nat.le_refl _) _ rfl ?_; intro g' cap' w9 hown9 hgrow hat hlt9)
    have hB9 : Below w.heap.size w w9 := (Below.refl _ _).grown hgrow (Nat.le_refl _) (fun j hj => by cases hj)
    have hO9 : w9.ownsRow w.heap.size 5 1 (.slice (some ⟨g', 0, none⟩) 128 cap') 128 (bys b) := hown9
    have HO := Lib.hid (And.intro hO9 hB9)
    clear hown9 hgrow hat hlt9 hB9 hO9
    go_loopw [6] (fun v wr => v = .slice (some ⟨g', 0, none⟩) 128 cap' ∧ wr.ownsRow w.heap.size 5 1 (.slice (some ⟨g', 0, none⟩) 128 cap') 128 (bys b) ∧ Below w.heap.size w wr) (fun _ _ => 0)
    case atStart => exact ⟨rfl, HO.out⟩
    case round =>
      obtain ⟨rfl, hO⟩ := hrel
      have HQ := Lib.hid hO
      clear hO
      go_wp2
      go_ret
      exact ⟨g', cap', rfl, HQ.out⟩

/-- the struct turns -/
theorem RefAt.turn {W : World} (h : RefAt w₀ w r mb n vc Vs F D) (hf : Fr (fun k => k = r) w W) {D' : Dv} (hs : D'.safe = D.safe) (hc : D'.cache = D.cache) (hb : W.heap[r]? = some (.cells #[.int .i64 (D'.safe.length : Int), .map (some mb), vc, .int .i64 (D'.plan : Int), .bool D'.down, .int .i64 (D'.calls : Int)] 57 (0, 0))) : RefAt w₀ W r mb n vc Vs F D' := by
  have ne : ∀ k c t f, w.heap[k]? = some (Obj.cells c t f) → t ≠ 57 → k ≠ r := fun k c t f hk ht e => by
    subst e; rw [h.blk] at hk; simp at hk; exact ht hk.2.1.symm
  have own : ∀ {e : TypeId} {s : Nat} {v : Value} {m : Nat} {xs : List Value}, e ≠ 57 → w.ownsRow w₀.heap.size e s v m xs → W.ownsRow w₀.heap.size e s v m xs := fun he ho => own_fr ho hf (fun k hk e2 => by
    subst e2
    rcases ho.2 with ⟨e3, _⟩ | ⟨g, cap, cur, e3, _, hg, _⟩
    · rw [e3] at hk; simp [Value.ownBlock] at hk
    · rw [e3] at hk; simp [Value.ownBlock] at hk; subst hk; exact ne _ _ _ _ hg he rfl)
  refine ⟨hb, h.map.kept (fun o ho => (hf.block mb (Array.getElem?_eq_some_iff.1 ho).1 (fun e => ?_)).trans ho), fun i b hi => ?_, by rw [hc]; exact own (by decide) h.cache, by rw [hc]; exact h.lens, fun k x v hx hv => ?_, h.lr, h.lm⟩
  · obtain ⟨Dm, ⟨es, clock, hm, _⟩, _⟩ := h.map
    rw [e, h.blk] at hm; cases hm
  · rw [hs] at hi
    rcases h.ent i b hi with e | ⟨v, hv, ho⟩
    · exact .inl e
    · exact .inr ⟨v, hv, own (by decide) ho.1, ho.2⟩
  · rw [hc] at hx
    have := h.held k x v hx hv
    exact ⟨own (by decide) this.1, this.2⟩

theorem setPlan_any (h : RefAt w₀ w r mb n vc Vs F D) {i : Int} {x : Int} (hE : D.planE i = x) {D' : Dv} (hD : D.setPlan i = D') : Calls Try.prog 57 #[.pointer (some ⟨r, 0, none⟩), .int .i64 i] w fun e w' => e = .returned (.int .i64 x) ∧ RefAt w₀ w' r mb n vc Vs F D' ∧ Fr (fun k => k = r) w w' := by
  obtain ⟨hp, c0, c1, c2, c3, c4, c5, fz⟩ := blk6 h.blk
  subst hE hD
  unfold Dv.planE Dv.setPlan
  have H := Lib.hid h
  clear h
  rcases hd : D.down with _ | _ <;> rw [hd] at c4
  · by_cases h1 : i < 0
    · simp only [h1, Bool.false_eq_true, if_false, if_true]
      go_enter Try.func57, Try.ntmps57
      go_wp2
      go_ret
      exact ⟨rfl, H.out, Fr.refl _ _⟩
    · simp only [h1, Bool.false_eq_true, if_false]
      go_enter Try.func57, Try.ntmps57
      go_wp2
      go_ret
      refine ⟨rfl, H.out.turn (Fr.one w r 3 _) rfl rfl (blk_set H.out.blk ?_), Fr.one w r 3 _⟩
      simp [hd]; omega
  · simp only [if_true]
    go_enter Try.func57, Try.ntmps57
    go_wp2
    go_ret
    exact ⟨rfl, H.out, Fr.refl _ _⟩

/-- counts: what counts, and whether it goes down -/
theorem counts_any (h : RefAt w₀ w r mb n vc Vs F D) (hcalls : D.calls < 4611686018427387904) (hpl : D.plan ≤ 9223372036854775807) : Calls Try.prog 76 #[.pointer (some ⟨r, 0, none⟩)] w fun e w' => e = .returned (.bool (D.plan == 1)) ∧ RefAt w₀ w' r mb n vc Vs F D.tick ∧ Fr (fun k => k = r) w w' := by
  obtain ⟨hp, c0, c1, c2, c3, c4, c5, fz⟩ := blk6 h.blk
  have H := Lib.hid h
  clear h
  unfold Dv.tick
  rcases Nat.lt_or_ge 0 D.plan with h0 | h0
  · by_cases h1 : D.plan = 1
    · rw [if_pos h1]
      have hb : (D.plan == 1) = true := by simp [h1]
      have e1 : ((D.plan : Int) == 0) = false := beq_eq_false_iff_ne.2 (by omega)
      have e2 : ((D.plan : Int) - 1 == 0) = true := by simp [h1]
      rw [hb]
      go_enter Try.func76, Try.ntmps76
      go_wp2
      go_ret
      have hf := (((Fr.refl (fun k => k = r) w).setCell (p := ⟨r, 5, none⟩) (.inl rfl) (.int .i64 ((D.calls : Int) + 1))).setCell (p := ⟨r, 3, none⟩) (.inl rfl) (.int .i64 0)).setCell (p := ⟨r, 4, none⟩) (.inl rfl) (.bool true)
      exact ⟨rfl, H.out.turn hf rfl rfl (blk_set (blk_set (blk_set H.out.blk rfl) rfl) (by simp)), hf⟩
    · rw [if_neg h1]
      have hb : (D.plan == 1) = false := by simp [h1]
      have e1 : ((D.plan : Int) == 0) = false := beq_eq_false_iff_ne.2 (by omega)
      have e2 : ((D.plan : Int) - 1 == 0) = false := beq_eq_false_iff_ne.2 (by omega)
      rw [hb]
      go_enter Try.func76, Try.ntmps76
      go_wp2
      go_ret
      have hf := ((Fr.refl (fun k => k = r) w).setCell (p := ⟨r, 5, none⟩) (.inl rfl) (.int .i64 ((D.calls : Int) + 1))).setCell (p := ⟨r, 3, none⟩) (.inl rfl) (.int .i64 ((D.plan : Int) - 1))
      exact ⟨rfl, H.out.turn hf rfl rfl (blk_set (blk_set H.out.blk rfl) (by simp; omega)), hf⟩
  · have h1 : D.plan = 0 := by omega
    rw [if_neg (by omega)]
    have hb : (D.plan == 1) = false := by simp [h1]
    have e1 : ((D.plan : Int) == 0) = true := by simp [h1]
    rw [hb]
    go_enter Try.func76, Try.ntmps76
    go_wp2
    go_ret
    have hf := (Fr.refl (fun k => k = r) w).setCell (p := ⟨r, 5, none⟩) (.inl rfl) (.int .i64 ((D.calls : Int) + 1))
    exact ⟨rfl, H.out.turn hf rfl rfl (blk_set H.out.blk (by simp [h1])), hf⟩
end
end Go.Proofs.Ytbmankbbkemkcaa
