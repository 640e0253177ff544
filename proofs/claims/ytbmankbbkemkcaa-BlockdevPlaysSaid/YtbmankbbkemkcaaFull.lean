/- full, Bytes: rows of bytes that a loop fills. -/
import Derived.Test.YtbmankbbkemkcaaRest
import Derived.Lib.BufferRead
namespace Go.Proofs.Ytbmankbbkemkcaa
open Go.RowKit Go.Shelf

def fillRow (n : Nat) (f : Nat → UInt8) (k : Nat) : List UInt8 := (List.range n).map fun i => if i < k then f i else 0
theorem fillRow_length (n : Nat) (f : Nat → UInt8) (k : Nat) : (fillRow n f k).length = n := by simp [fillRow]
theorem fillRow_zero (n : Nat) (f : Nat → UInt8) : fillRow n f 0 = List.replicate n 0 := by
  apply List.ext_getElem <;> simp [fillRow]
theorem fillRow_all (n : Nat) (f : Nat → UInt8) : fillRow n f n = (List.range n).map f := by
  apply List.ext_getElem
  · simp [fillRow]
  · intro i h1 h2
    simp [fillRow] at h1
    simp [fillRow, h1]
theorem fillRow_set (n : Nat) (f : Nat → UInt8) (k : Nat) : (bys (fillRow n f k)).toArray.setIfInBounds k (u8 (f k)) = (bys (fillRow n f (k + 1))).toArray := by
  rw [List.setIfInBounds_toArray]
  congr 1
  apply List.ext_getElem
  · simp [bys, fillRow]
  · intro i h1 h2
    simp only [bys, fillRow, List.length_map, List.length_range] at h2
    rw [List.getElem_set]
    simp only [bys, fillRow, List.getElem_map, List.getElem_range]
    split
    · next h => subst h; simp
    · next h =>
      by_cases h3 : i < k
      · simp [h3, show i < k + 1 by omega]
      · simp [h3, show ¬ i < k + 1 by omega]

theorem info5' : ∃ i, Try.prog.info? 5 = some i ∧ i.zero = some (.int .u8 0) ∧ i.size = 1 ∧ i.bytes = 1 := info_parts info5

theorem make5 (n : Nat) (hn : n ≤ 1048576) (w : World) : (Instr.makeSlice 23 (.int .i64 (n : Int)) (.int .i64 (n : Int))).run Try.prog w = .ok (.slice (some ⟨w.heap.size, 0, none⟩) n n) (w.alloc (.cells (bys (List.replicate n 0)).toArray 5)) := by
  obtain ⟨i0, hi, hz0, hz1, hz2⟩ := info5'
  have := run_make (P := Try.prog) w 23 5 i0 (.int .u8 0) Try.underlying23 hi hz0 .i64 .i64 n n (by omega) (Int.le_refl _) (by rw [hz2]; omega) (by omega)
  rw [this, hz1]
  have : madeCells (Value.int .u8 0).cells ((n : Int).toNat * 1) = (bys (List.replicate n 0)).toArray := by
    apply Array.ext
    · rw [size_madeCells]; simp [bys]
    · intro i h1 h2
      simp [madeCells, bys, u8, Value.cells, Nat.mod_one]
  rw [this]
  simp

theorem row_own {w : World} {g n base : Nat} {b : List UInt8} (h : w.heap[g]? = some (.cells (bys b).toArray 5 (0, 0))) (hb : base ≤ g) (hn : b.length = n) (hm : n ≤ 1048576) : w.ownsRow base 5 1 (.slice (some ⟨g, 0, none⟩) n n) n (bys b) := by
  refine ⟨by rw [bys_length, hn]; omega, .inr ⟨g, n, _, rfl, hb, h, Nat.le_refl _, by unfold maxLen; omega, by simp [bys, hn], ?_⟩⟩
  rw [List.take_of_length_le]
  simp [bys, hn]

set_option maxRecDepth 100000 in
set_option maxHeartbeats 400000 in
theorem full_any (c : UInt8) (w : World) : Calls Try.prog 29 #[.int .u8 (c.toNat : Int)] w fun e w' => ∃ g, e = .returned (.slice (some ⟨g, 0, none⟩) 128 128) ∧ w'.heap[g]? = some (.cells (bys (List.replicate 128 c)).toArray 5 (0, 0)) ∧ w.heap.size ≤ g ∧ Below w.heap.size w w' := by
  have hmk := Lib.hid (make5 128 (by omega))
  have hmk' : ∀ w : World, (Instr.makeSlice 23 (.int .i64 128) (.int .i64 128)).run Try.prog w = .ok (.slice (some ⟨w.heap.size, 0, none⟩) 128 128) (w.alloc (.cells (bys (List.replicate 128 0)).toArray 5)) := hmk.out
  go_enter Try.func29, Try.ntmps29
  go_wp2
  go_loopw [8] (fun i wr => ∃ k : Nat, k ≤ 128 ∧ i = .int .i64 k ∧ wr.heap[w.heap.size]? = some (.cells (bys (fillRow 128 (fun _ => c) k)).toArray 5 (0, 0)) ∧ Below w.heap.size w wr) (fun i _ => 128 - (intOf i).toNat)
  case atStart => exact ⟨0, by omega, rfl, by rw [fillRow_zero]; exact heap_alloc_new w _, (Below.refl _ _).alloc (Nat.le_refl _) _⟩
  case round =>
    obtain ⟨k, hk, rfl, hg, hb⟩ := hrel
    rcases Nat.lt_or_ge k 128 with hlt | hge
    · have hsz := hb.size
      have hf := frozen_of_row wr w.heap.size k _ _ hg
      obtain ⟨u, hu⟩ : ∃ u, (bys (fillRow 128 (fun _ => c) k))[k]? = some u := ⟨_, List.getElem?_eq_getElem (by simp [bys, fillRow]; omega)⟩
      have hc : wr.cell? ⟨w.heap.size, k, none⟩ = some u := by rw [cell_of_row _ _ _ _ _ _ hg]; simpa using hu
      have HG := Lib.hid hg
      have HB := Lib.hid hb
      clear hg hb hu
      go_wp2
      go_roundw
      case rel => exact ⟨k + 1, by omega, by go_num, blk_set HG.out (fillRow_set 128 (fun _ => c) k), HB.out.setCell (p := ⟨w.heap.size, k, none⟩) (Nat.le_refl _) _⟩
      case measure => simp [intOf]; omega
    · obtain rfl : k = 128 := by omega
      have HG := Lib.hid hg
      have HB := Lib.hid hb
      clear hg hb
      go_wp2
      go_ret
      refine ⟨w.heap.size, rfl, ?_, Nat.le_refl _, HB.out⟩
      have := HG.out
      rw [fillRow_all, List.map_const', List.length_range] at this
      exact this

/-- an Op of the laws -/
structure OpL where
  kind : Int
  n : Int
  b : UInt8
  len : Int
  c : Cr

/-- its bytes -/
def OpL.size (x : OpL) : Nat := if 0 < x.len then x.len.toNat else 128
def OpL.bytes (x : OpL) : List UInt8 := (List.range x.size).map fun i => x.b + UInt8.ofNat (i / 16)

theorem BytesV.of_row {w : World} {g n : Nat} {b : List UInt8} (h : w.heap[g]? = some (.cells (bys b).toArray 5 (0, 0))) (hn : b.length = n) : BytesV w (.slice (some ⟨g, 0, none⟩) n n) b := by
  refine .inl ⟨⟨g, 0, none⟩, n, by rw [hn], .inr (Array.getElem?_eq_some_iff.1 h).1, ?_⟩
  intro j u hj
  rw [show (⟨g, 0, none⟩ : Addr).add j = ⟨g, j, none⟩ from by simp [Addr.add]; exact fun h => h.symm, cell_of_row _ _ _ _ _ _ h]
  simpa using hj

/-- string(b) -/
theorem conv_bytes {w : World} {v : Value} {b : List UInt8} (h : BytesV w v b) : (convert 23 9 v).run Try.prog w = .ok (.string ⟨b.toArray⟩) w := by
  rcases h with ⟨ad, cap, rfl, _, hs⟩ | ⟨rfl, rfl⟩
  · exact run_convert_bytes_back w 23 9 5 ad cap b Try.underlying23 Try.underlying5 Try.underlying9 (fun j hj => hs j _ (by simp [bys, u8, hj]))
  · exact Lib.run_convert_nil_bytes w 23 9 5 0 Try.underlying23 Try.underlying5 Try.underlying9

theorem NewB.bytesV {w w' : World} {v : Value} {b : List UInt8} (h : NewB w w' v b) : BytesV w' v b := by
  rcases h.1.2 with ⟨e, _⟩ | ⟨g, cap, cur, e, _, hg, _⟩
  · exact absurd e h.2.2
  · subst e
    exact .inl ⟨⟨g, 0, none⟩, cap, rfl, .inr (Array.getElem?_eq_some_iff.1 hg).1, fun j u hj => h.1.cells (g := g) rfl j u hj⟩

set_option maxRecDepth 100000 in
set_option maxHeartbeats 400000 in
theorem reads_any (p : Nat) (vs vc : Value) (D : Dv) (w : World) (h : DevAt w p vs vc D) (n : Nat) (hu : D.up n = 0) (v : Value) (b : List UInt8) (hv : BytesV w v b) :
    Calls Try.prog 30 #[.pointer (some ⟨p, 0, none⟩), .int .i64 (n : Int), v] w fun e w' => e = .returned (.bool (D.read n == b)) ∧ Below w.heap.size w w' := by
  have H := Lib.hid h
  have HV := Lib.hid hv
  obtain ⟨ao, cap, rfl⟩ := hv.len
  clear h hv
  go_enter Try.func30, Try.ntmps30
  go_wp2_with (go_at_call 16; refine (read_any p vs vc D _ H.out n hu).mono ?_; rintro e w' ⟨v', rfl, hN⟩; have hc1 := conv_bytes hN.bytesV; obtain ⟨g', c', rfl⟩ := hN.bytesV.len; have hc2 := conv_bytes (HV.out.fr (Fr.of_below hN.2.1 (fun _ => False)) (fun _ _ _ _ e => e)))
  go_ret
  exact ⟨rfl, hN.2.1⟩
end Go.Proofs.Ytbmankbbkemkcaa
