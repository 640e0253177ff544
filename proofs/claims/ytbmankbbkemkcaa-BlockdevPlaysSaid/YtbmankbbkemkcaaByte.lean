/- Bytes. -/
import Derived.Test.YtbmankbbkemkcaaGrea
namespace Go.Proofs.Ytbmankbbkemkcaa
open Go.RowKit

def byteF (b : UInt8) (i : Nat) : UInt8 := b + UInt8.ofNat (i / 16)

theorem byteF_val (b : UInt8) (k : Nat) : ((byteF b k).toNat : Int) = ((b.toNat : Int) + (k : Int) / 16) % 256 := by
  unfold byteF
  rw [UInt8.toNat_add, UInt8.toNat_ofNat']
  omega

set_option maxRecDepth 100000 in
set_option maxHeartbeats 400000 in
theorem bytes_pos (kind n : Int) (b : UInt8) (m : Nat) (h0 : 0 < m) (hm : m ≤ 300) (ak : Option Addr) (kl ck : Nat) (t a : Int) (w : World) :
    Calls Try.prog 14 #[.agg #[.int .i64 kind, .int .i64 n, .int .u8 (b.toNat : Int), .int .i64 (m : Int), .slice ak kl ck, .int .i64 t, .int .i64 a]] w fun e w' =>
      ∃ g, e = .returned (.slice (some ⟨g, 0, none⟩) m m) ∧ w'.heap[g]? = some (.cells (bys ((List.range m).map (byteF b))).toArray 5 (0, 0)) ∧ w.heap.size ≤ g ∧ Below w.heap.size w w' := by
  have hmk := make5 m (by omega)
  have h0' : (0 : Int) < (m : Int) := by omega
  go_enter Try.func14, Try.ntmps14
  go_wp2
  go_loopw [15] (fun i wr => ∃ k : Nat, k ≤ m ∧ i = .int .i64 k ∧ wr.heap[w.heap.size]? = some (.cells #[.int .i64 kind, .int .i64 n, .int .u8 (b.toNat : Int), .int .i64 (m : Int), .slice ak kl ck, .int .i64 t, .int .i64 a] 34 (0, 0)) ∧ wr.heap[w.heap.size + 1]? = some (.cells (bys (fillRow m (byteF b) k)).toArray 5 (0, 0)) ∧ Below w.heap.size w wr) (fun i _ => m - (intOf i).toNat)
  case atStart => exact ⟨0, by omega, rfl, (heap_alloc_old _ _ _ (by simp)).trans (heap_alloc_new w _), by rw [fillRow_zero]; exact heap_alloc2_new w _ _, ((Below.refl _ _).alloc (Nat.le_refl _) _).alloc (by simp) _⟩
  case round =>
    obtain ⟨k, hk, rfl, hB, hg, hb⟩ := hrel
    rcases Nat.lt_or_ge k m with hlt | hge
    · have hsz := hb.size
      have hf := frozen_of_row wr (w.heap.size + 1) k _ _ hg
      obtain ⟨u, hu⟩ : ∃ u, (bys (fillRow m (byteF b) k))[k]? = some u := ⟨_, List.getElem?_eq_getElem (by simp [bys, fillRow]; omega)⟩
      have hc : wr.cell? ⟨w.heap.size + 1, k, none⟩ = some u := by rw [cell_of_row _ _ _ _ _ _ hg]; simpa using hu
      have q2 : wr.cell? ⟨w.heap.size, 2, none⟩ = some (.int .u8 (b.toNat : Int)) := by rw [cell_of_row _ _ _ _ _ _ hB]; rfl
      have HG := Lib.hid hg
      have HB := Lib.hid hb
      have HBB := Lib.hid hB
      clear hg hb hu hB
      go_wp2
      go_roundw
      case rel => exact ⟨k + 1, by omega, by go_num, (Below.heap_setCell _ ⟨w.heap.size + 1, k, none⟩ _ _ (by simp)).trans HBB.out, by rw [← byteF_val]; exact blk_set HG.out (fillRow_set m (byteF b) k), HB.out.setCell (p := ⟨w.heap.size + 1, k, none⟩) (by simp) _⟩
      case measure => simp [intOf]; omega
    · obtain rfl : k = m := by omega
      have HG := Lib.hid hg
      have HB := Lib.hid hb
      clear hg hb hB
      go_wp2
      go_ret
      refine ⟨w.heap.size + 1, rfl, ?_, by omega, HB.out⟩
      have := HG.out
      rw [fillRow_all] at this
      exact this
set_option maxRecDepth 100000 in
set_option maxHeartbeats 400000 in
theorem bytes_def (kind n : Int) (b : UInt8) (l : Int) (h0 : ¬ 0 < l) (ak : Option Addr) (kl ck : Nat) (t a : Int) (w : World) :
    Calls Try.prog 14 #[.agg #[.int .i64 kind, .int .i64 n, .int .u8 (b.toNat : Int), .int .i64 l, .slice ak kl ck, .int .i64 t, .int .i64 a]] w fun e w' =>
      ∃ g, e = .returned (.slice (some ⟨g, 0, none⟩) 128 128) ∧ w'.heap[g]? = some (.cells (bys ((List.range 128).map (byteF b))).toArray 5 (0, 0)) ∧ w.heap.size ≤ g ∧ Below w.heap.size w w' := by
  have hmk : ∀ w : World, (Instr.makeSlice 23 (.int .i64 128) (.int .i64 128)).run Try.prog w = .ok (.slice (some ⟨w.heap.size, 0, none⟩) 128 128) (w.alloc (.cells (bys (List.replicate 128 0)).toArray 5)) := make5 128 (by omega)
  go_enter Try.func14, Try.ntmps14
  go_wp2
  go_loopw [15] (fun i wr => ∃ k : Nat, k ≤ 128 ∧ i = .int .i64 k ∧ wr.heap[w.heap.size]? = some (.cells #[.int .i64 kind, .int .i64 n, .int .u8 (b.toNat : Int), .int .i64 l, .slice ak kl ck, .int .i64 t, .int .i64 a] 34 (0, 0)) ∧ wr.heap[w.heap.size + 1]? = some (.cells (bys (fillRow 128 (byteF b) k)).toArray 5 (0, 0)) ∧ Below w.heap.size w wr) (fun i _ => 128 - (intOf i).toNat)
  case atStart => exact ⟨0, by omega, rfl, (heap_alloc_old _ _ _ (by simp)).trans (heap_alloc_new w _), by rw [fillRow_zero]; exact heap_alloc2_new w _ _, ((Below.refl _ _).alloc (Nat.le_refl _) _).alloc (by simp) _⟩
  case round =>
    obtain ⟨k, hk, rfl, hB, hg, hb⟩ := hrel
    rcases Nat.lt_or_ge k 128 with hlt | hge
    · have hsz := hb.size
      have hf := frozen_of_row wr (w.heap.size + 1) k _ _ hg
      obtain ⟨u, hu⟩ : ∃ u, (bys (fillRow 128 (byteF b) k))[k]? = some u := ⟨_, List.getElem?_eq_getElem (by simp [bys, fillRow]; omega)⟩
      have hc : wr.cell? ⟨w.heap.size + 1, k, none⟩ = some u := by rw [cell_of_row _ _ _ _ _ _ hg]; simpa using hu
      have q2 : wr.cell? ⟨w.heap.size, 2, none⟩ = some (.int .u8 (b.toNat : Int)) := by rw [cell_of_row _ _ _ _ _ _ hB]; rfl
      have HG := Lib.hid hg
      have HB := Lib.hid hb
      have HBB := Lib.hid hB
      clear hg hb hu hB
      go_wp2
      go_roundw
      case rel => exact ⟨k + 1, by omega, by go_num, (Below.heap_setCell _ ⟨w.heap.size + 1, k, none⟩ _ _ (by simp)).trans HBB.out, by rw [← byteF_val]; exact blk_set HG.out (fillRow_set 128 (byteF b) k), HB.out.setCell (p := ⟨w.heap.size + 1, k, none⟩) (by simp) _⟩
      case measure => simp [intOf]; omega
    · obtain rfl : k = 128 := by omega
      have HG := Lib.hid hg
      have HB := Lib.hid hb
      clear hg hb hB
      go_wp2
      go_ret
      refine ⟨w.heap.size + 1, rfl, ?_, by omega, HB.out⟩
      have := HG.out
      rw [fillRow_all] at this
      exact this

/-- Bytes of an Op -/
theorem bytes_any (o : OpX) (h : o.x.len ≤ 300) (w : World) : Calls Try.prog 14 #[.agg o.cells.toArray] w fun e w' =>
    ∃ g, e = .returned (.slice (some ⟨g, 0, none⟩) o.x.size o.x.size) ∧ w'.heap[g]? = some (.cells (bys o.x.bytes).toArray 5 (0, 0)) ∧ w.heap.size ≤ g ∧ Below w.heap.size w w' := by
  by_cases h0 : 0 < o.x.len
  · obtain ⟨m, hm⟩ : ∃ m : Nat, o.x.len = (m : Int) := ⟨o.x.len.toNat, by omega⟩
    have hs : o.x.size = m := by unfold OpL.size; rw [if_pos h0, hm]; rfl
    have := bytes_pos o.x.kind o.x.n o.x.b m (by omega) (by omega) o.ak o.x.c.keep.length o.ck o.x.c.torn o.x.c.at_ w
    rw [← hm] at this
    unfold OpL.bytes
    rw [hs]
    exact this
  · have hs : o.x.size = 128 := by unfold OpL.size; rw [if_neg h0]
    have := bytes_def o.x.kind o.x.n o.x.b o.x.len h0 o.ak o.x.c.keep.length o.ck o.x.c.torn o.x.c.at_ w
    unfold OpL.bytes
    rw [hs]
    exact this
end Go.Proofs.Ytbmankbbkemkcaa
