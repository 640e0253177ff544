/- Copy. -/
import Derived.Test.YtbmankbbkemkcaaSafe
import Derived.Deep.RegionHeld3
namespace Go.Proofs.Ytbmankbbkemkcaa
open Go.RowKit

theorem copy52 (p : Nat) (vs vc : Value) (D : Dv) (w : World) (h : DevAt w p vs vc D) (W : World) (hS : W.cell? ⟨p, 0, none⟩ = some vs ∧ W.cell? ⟨p, 1, none⟩ = some vc ∧ W.cell? ⟨p, 2, none⟩ = some (.int .i64 (D.plan : Int)) ∧ W.cell? ⟨p, 3, none⟩ = some (.bool D.down) ∧ W.cell? ⟨p, 4, none⟩ = some (.int .i64 (D.calls : Int)) ∧ Below w.heap.size w W) :
    Calls Try.prog 52 #[vs] W fun e w' => ∃ g c, e = .returned (.slice (some ⟨g, 0, none⟩) D.safe.length c) ∧ w'.ownsRow W.heap.size 83 128 (.slice (some ⟨g, 0, none⟩) D.safe.length c) D.safe.length (D.safe.flatMap bys) ∧ Below W.heap.size W w' ∧ Below w.heap.size w w' := by
  have hW := hS.2.2.2.2.2
  obtain ⟨g, cap, hs, hg⟩ := h.safeForm
  have hown := h.safe
  rw [hs] at hown ⊢
  have hm := h.most
  refine (clone_sectors ⟨g, 0, none⟩ _ _ (D.safe.flatMap bys) W (flat_length bys 128 _ (fun y hy => by rw [bys_length]; exact h.lens y hy)) (Nat.lt_of_lt_of_le hg hW.size) ?_ (one_flat _) (by omega)).mono ?_
  · exact (show Seg w ⟨g, 0, none⟩ _ from fun j u hj => hown.cells (g := g) rfl j u hj).of_block (hW.block g hg)
  · rintro e w' ⟨v, rfl, h1, h2, _⟩
    obtain ⟨g', c', rfl, _⟩ := h1.form h.pos
    exact ⟨g', c', rfl, h1, h2, hW.trans (h2.mono hW.size)⟩

theorem copy53 (p : Nat) (vs vc : Value) (D : Dv) (w : World) (h : DevAt w p vs vc D) (W : World) (hS : W.cell? ⟨p, 0, none⟩ = some vs ∧ W.cell? ⟨p, 1, none⟩ = some vc ∧ W.cell? ⟨p, 2, none⟩ = some (.int .i64 (D.plan : Int)) ∧ W.cell? ⟨p, 3, none⟩ = some (.bool D.down) ∧ W.cell? ⟨p, 4, none⟩ = some (.int .i64 (D.calls : Int)) ∧ Below w.heap.size w W) :
    Calls Try.prog 53 #[vc] W fun e w' => ∃ ao c, e = .returned (.slice ao D.cache.length c) ∧ w'.ownsRow W.heap.size 85 129 (.slice ao D.cache.length c) D.cache.length (D.cache.flatMap wcells) ∧ Below W.heap.size W w' ∧ Below w.heap.size w w' := by
  have hW := hS.2.2.2.2.2
  have hown := h.cache
  have hm := h.full
  rcases hown.2 with ⟨hn, h0⟩ | ⟨g, cap, cur, hv, _, hg, _⟩
  · rw [hn]
    refine (clone_writes_nil W).mono ?_
    rintro e w' ⟨rfl, rfl⟩
    have : D.cache = [] := List.eq_nil_of_length_eq_zero h0
    exact ⟨none, 0, by rw [h0], by rw [h0, this]; exact World.ownsRow_nil _ _ _ _, Below.refl _ _, hW⟩
  · have hgl := (Array.getElem?_eq_some_iff.1 hg).1
    rw [hv] at hown ⊢
    refine (clone_writes ⟨g, 0, none⟩ _ _ (D.cache.flatMap wcells) W (flat_length wcells 129 _ (fun y hy => by simp [wcells, bys_length, (h.lenc y hy).1])) (Nat.lt_of_lt_of_le hgl hW.size) ?_ (one_wflat _) (by omega)).mono ?_
    · exact (show Seg w ⟨g, 0, none⟩ _ from fun j u hj => hown.cells (g := g) rfl j u hj).of_block (hW.block g hgl)
    · rintro e w' ⟨v, rfl, h1, h2, _⟩
      obtain ⟨ao, c, rfl⟩ : ∃ ao c, v = .slice ao D.cache.length c := by
        rcases h1.2 with ⟨e1, e2⟩ | ⟨g', c', _, e1, _⟩
        · exact ⟨none, 0, by rw [e1, e2]⟩
        · exact ⟨_, c', e1⟩
      exact ⟨ao, c, rfl, h1, h2, hW.trans (h2.mono hW.size)⟩

set_option maxRecDepth 100000 in
set_option maxHeartbeats 1000000 in
theorem copy_any (p : Nat) (vs vc : Value) (D : Dv) (w : World) (h : DevAt w p vs vc D) :
    Calls Try.prog 17 #[.pointer (some ⟨p, 0, none⟩)] w fun e w' => ∃ q us uc, e = .returned (.pointer (some ⟨q, 0, none⟩)) ∧ DevAt w' q us uc D ∧ Below w.heap.size w w' ∧ ∀ k, Foot q us uc k → w.heap.size ≤ k := by
  obtain ⟨hp, c0, c1, c2, c3, c4, f0, f1, f2, f3, f4⟩ := blk5 h.blk
  have H := Lib.hid h
  have KP : Hid (∀ W, Below w.heap.size w W → W.cell? ⟨p, 0, none⟩ = some vs ∧ W.cell? ⟨p, 1, none⟩ = some vc ∧ W.cell? ⟨p, 2, none⟩ = some (.int .i64 (D.plan : Int)) ∧ W.cell? ⟨p, 3, none⟩ = some (.bool D.down) ∧ W.cell? ⟨p, 4, none⟩ = some (.int .i64 (D.calls : Int)) ∧ Below w.heap.size w W) := by
    intro W hb
    exact ⟨(hb.cell (p := ⟨p, 0, none⟩) hp).trans c0, (hb.cell (p := ⟨p, 1, none⟩) hp).trans c1, (hb.cell (p := ⟨p, 2, none⟩) hp).trans c2, (hb.cell (p := ⟨p, 3, none⟩) hp).trans c3, (hb.cell (p := ⟨p, 4, none⟩) hp).trans c4, hb⟩
  clear h
  go_enter Try.func17, Try.ntmps17
  go_wp2_with (go_at_call 51; refine (none_any p vs vc D _ H.out).mono ?_; rintro e w' ⟨rfl, rfl⟩)
  go_region_held3 (fun W => W.cell? ⟨p, 0, none⟩ = some vs ∧ W.cell? ⟨p, 1, none⟩ = some vc ∧ W.cell? ⟨p, 2, none⟩ = some (.int .i64 (D.plan : Int)) ∧ W.cell? ⟨p, 3, none⟩ = some (.bool D.down) ∧ W.cell? ⟨p, 4, none⟩ = some (.int .i64 (D.calls : Int)) ∧ Below w.heap.size w W) ((refine KP.out _ ?_; first | exact (Below.refl _ _).drew | assumption | exact hbw2.alloc hbw2.size _)) (first | (go_at_call 52; refine (copy52 p vs vc D w H.out _ (by assumption)).mono ?_; rintro e w' ⟨g, c, rfl, hown1, hbel1, hbw1⟩) | (go_at_call 53; refine (copy53 p vs vc D w H.out _ (by assumption)).mono ?_; rintro e w' ⟨ao, cc, rfl, hown2, hbel2, hbw2⟩))
  have o1 := own_fr hown1 (Fr.of_below hbel2 (fun _ => False)) (fun _ _ e => e)
  have hg1 := hown1.lt g rfl
  have hg2 := o1.lt g rfl
  have hc2 := hown2.lt
  have hsz := hbw1.size
  have HO := Lib.hid (And.intro o1 hown2)
  have HC2 := Lib.hid hc2
  have HB3 := Lib.hid hbw2
  clear o1 hown1 hown2 hbel1 hbel2 hbw1 hbw2 hc2
  go_wp2
  go_ret
  have f3 : Fr (fun _ => False) w' (w'.alloc (.cells #[.slice (some ⟨g, 0, none⟩) D.safe.length c, .slice ao D.cache.length cc, .int .i64 (D.plan : Int), .bool D.down, .int .i64 (D.calls : Int)] 67)) := (Fr.refl _ _).alloc _
  have hd := H.out
  refine ⟨w'.heap.size, _, _, rfl, ⟨heap_alloc_new w' _, own_base (own_fr HO.out.1 f3 (fun _ _ e => e)) (Nat.zero_le _), own_base (own_fr HO.out.2 f3 (fun _ _ e => e)) (Nat.zero_le _), ?_, ?_, ?_, hd.lens, hd.lenc, hd.pos, hd.most, hd.full, hd.plan⟩, HB3.out.alloc HB3.out.size _, ?_⟩
  · intro e; simp [Value.ownBlock] at e; omega
  · intro e; have := HC2.out _ e; have := own_fr HO.out.2 (Fr.refl (fun _ => False) w') (fun _ _ e => e); have := (this.lt _ e).2; omega
  · intro e
    have h1 := HC2.out g (by rw [← e]; rfl)
    omega
  · intro k hk
    have hb3 := HB3.out.size
    rcases hk with rfl | hk | hk
    · omega
    · simp [Value.ownBlock] at hk; subst hk; exact hg1.1
    · have := HC2.out k hk; omega
end Go.Proofs.Ytbmankbbkemkcaa
