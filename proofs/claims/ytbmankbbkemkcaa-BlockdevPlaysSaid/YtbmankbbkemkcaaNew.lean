/- blockdev.New. -/
import Derived.Test.YtbmankbbkemkcaaClone
import Derived.Test.YtbmankbbkemkcaaDevA
namespace Go.Proofs.Ytbmankbbkemkcaa
open Go.RowKit

/-- a device of noughts -/
def Dv.new (n : Nat) : Dv := { safe := List.replicate n (List.replicate 128 0), cache := [], plan := 0, down := false, calls := 0 }

theorem zs_get (j : Nat) (h : j < 128) : zs.cells[j]! = .int .u8 0 := by
  simp [zs, Value.cells, h]

theorem flat_rep (n : Nat) : (List.replicate n (List.replicate 128 (0 : UInt8))).flatMap bys = List.replicate (n * 128) (.int .u8 0) := by
  induction n with
  | zero => rfl
  | succ n ih =>
    rw [List.replicate_succ, List.flatMap_cons, ih, Nat.succ_mul, Nat.add_comm, bys, List.map_replicate]
    show List.replicate 128 (Value.int .u8 0) ++ _ = _
    rw [List.replicate_append_replicate]

/-- the sectors that 'make' lays -/
def madeS (n : Nat) : Array Value := madeCells zs.cells (n * 128)
theorem made_size (n : Nat) : (madeS n).size = n * 128 := size_madeCells _ _
theorem made_zs (n : Nat) : (madeS n).toList = (List.replicate n (List.replicate 128 (0 : UInt8))).flatMap bys := by
  rw [flat_rep]
  have hz : zs.cells.size = 128 := zs_size
  unfold madeS madeCells
  rw [hz]
  apply List.ext_getElem
  · simp
  · intro i h1 h2
    simp only [Array.getElem_toList, Array.getElem_map, Array.getElem_range, List.getElem_replicate]
    exact zs_get _ (Nat.mod_lt _ (by omega))

set_option maxRecDepth 100000 in
theorem new_any (n : Nat) (w : World) (h1 : 1 ≤ n) (h2 : n ≤ 65536) :
    Calls Try.prog 12 #[.int .i64 (n : Int)] w fun e w' => ∃ p vs vc, e = .returned (.tuple #[.pointer (some ⟨p, 0, none⟩), .int .i64 0]) ∧ DevAt w' p vs vc (Dv.new n) ∧ Below w.heap.size w w' ∧ (∀ k, Foot p vs vc k → w.heap.size ≤ k) := by
  obtain ⟨i0, hi, hz0, hz1, hz2⟩ := info_parts info83
  have hmk : ∀ (w : World), (Instr.makeSlice 64 (.int .i64 (n : Int)) (.int .i64 (n : Int))).run Try.prog w = .ok (.slice (some ⟨w.heap.size, 0, none⟩) n n) (w.alloc (.cells (madeS n) 83)) := fun w => by
    have := run_make (P := Try.prog) w 64 83 i0 zs Try.underlying64 hi hz0 .i64 .i64 n n (by omega) (Int.le_refl _) (by rw [hz2]; omega) (by omega)
    rw [hz1] at this
    simpa [madeS] using this
  have hown : (w.alloc (.cells (madeS n) 83)).ownsRow w.heap.size 83 128 (.slice (some ⟨w.heap.size, 0, none⟩) n n) n (madeS n).toList :=
    World.ownsRow_lit w _ n (Nat.le_refl _) (by unfold maxLen; omega) (made_size n)
  rw [made_zs] at hown
  go_enter Try.func12, Try.ntmps12
  go_wp2
  go_ret2
  refine ⟨w.heap.size + 1, .slice (some ⟨w.heap.size, 0, none⟩) n n, .slice none 0 0, rfl, ?_, ?_, ?_⟩
  · have h2 := own_fr hown (Fr.alloc (S := fun _ => False) (Fr.refl _ _) (.cells #[.slice (some ⟨w.heap.size, 0, none⟩) n n, .slice none 0 0, .int .i64 0, .bool false, .int .i64 0] 67)) (fun _ _ h => h)
    have hl : (Dv.new n).safe.length = n := by simp [Dv.new]
    refine ⟨heap_alloc2_new w _ _, ?_, World.ownsRow_nil _ _ _ _, by simp [Value.ownBlock], by simp [Value.ownBlock], by simp [Value.ownBlock], ?_, by simp [Dv.new], by omega, by omega, by simp [Dv.new], by simp [Dv.new]⟩
    · rw [hl]
      exact own_base h2 (Nat.zero_le _)
    · intro b hb
      simp only [Dv.new, List.mem_replicate] at hb
      rw [hb.2]; simp
  · exact ((Below.refl _ _).alloc (Nat.le_refl _) _).alloc (by simp) _
  · intro k hk
    rcases hk with rfl | hk | hk
    · omega
    · simp [Value.ownBlock] at hk; omega
    · simp [Value.ownBlock] at hk

theorem new_bad (n : Int) (w : World) (h : n < 1 ∨ 65536 < n) :
    Calls Try.prog 12 #[.int .i64 n] w fun e w' => e = .returned (.tuple #[.pointer none, .int .i64 2]) ∧ w = w' := by
  rcases h with h | h
  · go_enter Try.func12, Try.ntmps12
    go_wp2
    go_ret2
    exact ⟨rfl, rfl⟩
  · have h' : ¬ n < 1 := by omega
    go_enter Try.func12, Try.ntmps12
    go_wp2
    go_ret2
    exact ⟨rfl, rfl⟩

end Go.Proofs.Ytbmankbbkemkcaa
