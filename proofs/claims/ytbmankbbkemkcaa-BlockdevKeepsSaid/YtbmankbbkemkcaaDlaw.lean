/- BlockdevDown: the plain law. -/
import Derived.Test.YtbmankbbkemkcaaByte
namespace Go.Proofs.Ytbmankbbkemkcaa

theorem up_down {D : Dv} (h : D.down = true) (n : Int) : D.up n = 120 := by unfold Dv.up; rw [if_pos h]
theorem up_le {D : Dv} (h : D.down = false) (n : Int) : D.up n = 0 ∨ D.up n = 121 := by
  unfold Dv.up; rw [if_neg (by simp [h])]; split
  · exact .inr rfl
  · exact .inl rfl
theorem tick_one {D : Dv} (h : D.plan = 1) : D.tick = { D with calls := D.calls + 1, down := true, plan := 0 } := if_pos h
theorem tick_more {D : Dv} (h : D.plan ≠ 1) : D.tick = { D with calls := D.calls + 1, plan := D.plan - 1 } := if_neg h

theorem write_keeps {D : Dv} (n : Int) (b : List UInt8) (h1 : D.plan = 0) (h2 : D.down = false) : (D.write n b).plan = 0 ∧ (D.write n b).down = false ∧ (D.write n b).safe = D.safe := by
  unfold Dv.write
  split
  · exact ⟨h1, h2, rfl⟩
  · rw [tick_more (show ({ D with cache := D.cache ++ [(n.toNat, b)] } : Dv).plan ≠ 1 from by show D.plan ≠ 1; omega)]
    exact ⟨show D.plan - 1 = 0 by omega, h2, rfl⟩

/-- where a planned device stands -/
def PInv (c0 n : Nat) (D : Dv) : Prop := (D.down = true ∧ D.plan = 0 ∧ D.calls = c0 + n) ∨ (D.down = false ∧ 1 ≤ D.plan ∧ D.plan + D.calls = c0 + n)

theorem pinv_step {c0 n : Nat} {D : Dv} (h : PInv c0 n D) (m : Int) (b : List UInt8) :
    PInv c0 n (D.write m b) ∧ (D.write m b).safe = D.safe ∧ (D.down = true → D.writeE m b.length = 120) ∧ (D.writeE m b.length = 120 → D.down = false → (D.write m b).calls = c0 + n) := by
  rcases h with ⟨h1, h2, h3⟩ | ⟨h1, h2, h3⟩
  · have hu := up_down h1 m
    have hw : D.write m b = D := by unfold Dv.write; rw [if_pos (.inl (by omega))]
    have he : D.writeE m b.length = 120 := by unfold Dv.writeE; rw [if_pos (by omega), hu]
    rw [hw]
    exact ⟨.inl ⟨h1, h2, h3⟩, rfl, fun _ => he, fun _ h => by rw [h1] at h; cases h⟩
  · by_cases hno : D.up m ≠ 0 ∨ b.length ≠ 128 ∨ 256 ≤ D.cache.length
    · have hw : D.write m b = D := by unfold Dv.write; rw [if_pos hno]
      rw [hw]
      refine ⟨.inr ⟨h1, h2, h3⟩, rfl, (fun h => by rw [h1] at h; cases h), fun he _ => ?_⟩
      exfalso
      unfold Dv.writeE at he
      rcases up_le h1 m with hu | hu <;> rw [hu] at he hno
      · rw [if_neg (by omega)] at he
        split at he
        · omega
        · split at he
          · omega
          · omega
      · rw [if_pos (by omega)] at he; omega
    · have hw : D.write m b = { D with cache := D.cache ++ [(m.toNat, b)] }.tick := by unfold Dv.write; rw [if_neg hno]
      rw [hw]
      by_cases hp : D.plan = 1
      · rw [tick_one (show ({ D with cache := D.cache ++ [(m.toNat, b)] } : Dv).plan = 1 from hp)]
        refine ⟨.inl ⟨rfl, rfl, ?_⟩, rfl, (fun h => by rw [h1] at h; cases h), fun _ _ => ?_⟩
        · show D.calls + 1 = c0 + n; omega
        · show D.calls + 1 = c0 + n; omega
      · rw [tick_more (show ({ D with cache := D.cache ++ [(m.toNat, b)] } : Dv).plan ≠ 1 from hp)]
        refine ⟨.inr ⟨h1, ?_, ?_⟩, rfl, (fun h => by rw [h1] at h; cases h), fun he _ => ?_⟩
        · show 1 ≤ D.plan - 1; omega
        · show D.plan - 1 + (D.calls + 1) = c0 + n; omega
        · exfalso
          unfold Dv.writeE at he
          rw [if_neg (by omega), if_neg (by omega), if_neg (by omega), if_neg hp] at he
          omega

theorem flush_keeps {D : Dv} (h1 : D.plan = 0) (h2 : D.down = false) : D.flushE = 0 ∧ D.flush.plan = 0 ∧ D.flush.down = false ∧ D.flush.safe.length = D.safe.length ∧ D.flush.calls = D.calls + 1 := by
  have hd : ¬ D.down = true := by simp [h2]
  have hp : ¬ D.plan = 1 := by omega
  have hf : D.flush = D.flushed.tick := by unfold Dv.flush; rw [if_neg hd, if_neg hp]
  have hE : D.flushE = 0 := by unfold Dv.flushE; rw [if_neg hd, if_neg hp]
  rw [hf, tick_more (show D.flushed.plan ≠ 1 from hp)]
  exact ⟨hE, show D.plan - 1 = 0 by omega, h2, fold_len _ _, rfl⟩

theorem plan_starts {D : Dv} {m : Nat} (h2 : D.down = false) (hm : 1 ≤ m) : D.planE m = 0 ∧ PInv D.calls m (D.setPlan m) ∧ (D.setPlan m).safe = D.safe := by
  have hd : ¬ D.down = true := by simp [h2]
  have hn : ¬ (m : Int) < 0 := by omega
  have hs : D.setPlan m = { D with plan := m } := by unfold Dv.setPlan; rw [if_neg hd, if_neg hn]; rfl
  refine ⟨by unfold Dv.planE; rw [if_neg hd, if_neg hn], ?_, by rw [hs]⟩
  rw [hs]
  exact .inr ⟨h2, hm, Nat.add_comm _ _⟩
end Go.Proofs.Ytbmankbbkemkcaa
