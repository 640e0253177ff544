/- The document's device: New, Read. -/
import Derived.Test.YtbmankbbkemkcaaRefa
namespace Go.Proofs.Ytbmankbbkemkcaa
open Go.RowKit Go.Shelf Go.Maps

theorem refNew_bad (w : World) (n : Int) (h : n < 1 ∨ 65536 < n) : Calls Try.prog 25 #[.int .i64 n] w fun e w' => e = .returned (.tuple #[.pointer none, .int .i64 2]) ∧ w = w' := by
  by_cases h1 : n < 1
  · clear h
    go_enter Try.func25, Try.ntmps25
    go_wp2
    go_ret2
    exact ⟨rfl, rfl⟩
  · have h2 : 65536 < n := by omega
    clear h
    go_enter Try.func25, Try.ntmps25
    go_wp2
    go_ret2
    exact ⟨rfl, rfl⟩

theorem refNew_any (w₀ w : World) (hb : w₀.heap.size ≤ w.heap.size) (n : Nat) (h1 : 1 ≤ n) (h2 : n ≤ 65536) : Calls Try.prog 25 #[.int .i64 (n : Int)] w fun e w' => ∃ r mb, e = .returned (.tuple #[.pointer (some ⟨r, 0, none⟩), .int .i64 0]) ∧ RefAt w₀ w' r mb 0 nilS [] (fun _ => none) (Dv.new n) ∧ Below w.heap.size w w' := by
  have hmm := @run_makeMap Try.prog
  have h1' : ¬ (n : Int) < 1 := by omega
  have h2' : ¬ (65536 : Int) < (n : Int) := by omega
  go_enter Try.func25, Try.ntmps25
  go_wp2
  go_ret2
  refine ⟨w.heap.size + 1, rfl, ⟨w.heap.size, ⟨?_, ?_, fun i b hi => ?_, ⟨rfl, .inl ⟨rfl, rfl⟩⟩, rfl, (fun k x v hx _ => by cases hx), by omega, hb⟩⟩, ((Below.refl _ w).alloc (Nat.le_refl _) _).alloc (by simp) _⟩
  · have : (w.alloc (Obj.map #[] 0)).heap.size = w.heap.size + 1 := by simp
    rw [← this]
    refine Eq.trans Array.getElem?_push_size ?_
    simp [Dv.new]
  · refine (MapIs.new w).kept fun o ho => ?_
    rw [Below.heap_alloc _ _ _ (by simp)]
    exact ho
  · exact .inl ⟨rfl, List.eq_of_mem_replicate (List.mem_of_getElem? hi)⟩
end Go.Proofs.Ytbmankbbkemkcaa
