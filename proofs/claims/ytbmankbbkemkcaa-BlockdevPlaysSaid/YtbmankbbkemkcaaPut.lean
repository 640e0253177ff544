/- A write into the cache: the closure of Write. -/
import Derived.Test.YtbmankbbkemkcaaNew
import Derived.Test.YtbmankbbkemkcaaArr
import Derived.Test.YtbmankbbkemkcaaFlow
namespace Go.Proofs.Ytbmankbbkemkcaa
open Go.RowKit

theorem size85 : (Try.prog.info? 85).map (·.size) = some 129 := by kernel_rfl
theorem size83 : (Try.prog.info? 83).map (·.size) = some 128 := by kernel_rfl
theorem size3 : (Try.prog.info? 3).map (·.size) = some 1 := by kernel_rfl

theorem run_array (a : Option Addr) (n cap : Nat) (h : 128 ≤ n) (w : World) : (Instr.arrayAt 83 (.slice a n cap)).run Try.prog w = .ok (.pointer a) w := by
  simp [Instr.arrayAt, run_underlying Try.underlying83, Nat.not_lt.2 h]

theorem fill2 (Z : Array Value) (hZ : Z.size = 129) (c : Value) (hc : c.cells = #[c]) (xs : List Value) (h : xs.length = 128) (pl : Nat → Option (Nat × Nat)) (h0 : pl 0 = some (0, 1)) (h1 : pl 1 = some (1, 128)) :
    Instr.fill pl Z [(0, c), (1, .agg xs.toArray)] = some (c :: xs).toArray := by
  have hx : (Value.agg xs.toArray).cells = xs.toArray := rfl
  have hs : (Value.agg xs.toArray).cells.size = 128 := by rw [hx]; simpa using h
  have hcs : c.cells.size = 1 := by rw [hc]; rfl
  rw [fill_cons pl Z 0 0 c _ (by rw [hcs]; exact h0) (by rw [hcs, hZ]; omega), fill_cons pl _ 1 1 _ _ (by rw [hs]; exact h1) (by rw [hs, hc]; simp [hZ])]
  simp only [Instr.fill]
  congr 1
  have e : List.drop 129 Z.toList = [] := List.drop_eq_nil_of_le (by simp [hZ])
  rw [hs, hx, hc]
  simp [e]

theorem run_build85 (n : Int) (xs : List Value) (h : xs.length = 128) (w : World) :
    (Instr.build 85 #[(0, .int .i64 n), (1, .agg xs.toArray)]).run Try.prog w = .ok (.agg (.int .i64 n :: xs).toArray) w := by
  obtain ⟨i85, hi, hz0, hz1, hz2⟩ := info_parts info85
  obtain ⟨i83, hi83, hs83⟩ := Option.map_eq_some_iff.1 size83
  obtain ⟨i3, hi3, hs3⟩ := Option.map_eq_some_iff.1 size3
  refine run_build w 85 _ _ ?_
  unfold Program.built
  rw [hi, Try.underlying85]
  simp only [hz0, List.mapM_cons, List.mapM_nil, hi83, hi3, Option.map_some, Option.bind_eq_bind, Option.bind_some, Option.pure_def, hs83, hs3]
  exact fill2 zw.cells zw_size _ rfl xs h _ rfl rfl


theorem put_world (p : Nat) (vs vc : Value) (D : Dv) (w : World) (h : DevAt w p vs vc D) (n : Nat) (b : List UInt8) (hlb : (bys b).length = 128) (hfull : D.cache.length < 256) :
    ∃ g c w1, (Builtin.append_ #[65, 65] 65 #[vc, .slice (some ⟨w.heap.size, 0, none⟩) 1 1]).run Try.prog (w.alloc (.cells (.int .i64 (n : Int) :: bys b).toArray 85)).drew = .ok (.slice (some ⟨g, 0, none⟩) (D.cache.length + 1) c) w1 ∧
      w1.ownsRow 0 85 129 (.slice (some ⟨g, 0, none⟩) (D.cache.length + 1) c) (D.cache.length + 1) (D.cache.flatMap wcells ++ wcells (n, b)) ∧
      ((w.alloc (.cells (.int .i64 (n : Int) :: bys b).toArray 85)).drew).grownBy w1 vc.ownBlock ∧ (vc.ownBlock = some g ∨ g = w.heap.size + 1) := by
  obtain ⟨i0, hi, hz0, hz1, hz2⟩ := info_parts info85
  have hown : ((w.alloc (.cells (.int .i64 (n : Int) :: bys b).toArray 85)).drew).ownsRow 0 85 129 vc D.cache.length (D.cache.flatMap wcells) := own_fr h.cache (((Fr.refl (fun _ => False) w).alloc _).drew) (fun _ _ h => h)
  have HN : ∀ j u, (wcells (n, b))[j]? = some u → ((w.alloc (.cells (.int .i64 (n : Int) :: bys b).toArray 85)).drew).cell? ((⟨w.heap.size, 0, none⟩ : Addr).add j) = some u := by
    intro j u hj
    have hadd : (⟨w.heap.size, 0, none⟩ : Addr).add j = ⟨w.heap.size, j, none⟩ := by unfold Addr.add; split <;> simp_all
    rw [hadd]
    show (w.alloc _).cell? _ = _
    rw [cell_of_row _ _ j _ 85 (0, 0) (heap_alloc_new w _)]
    simpa [wcells] using hj
  obtain ⟨g, c, w1, hr, h1, h2, h3, h4⟩ := run_append_lies (P := Try.prog) ((w.alloc (.cells (.int .i64 (n : Int) :: bys b).toArray 85)).drew) 65 65 0 85 i0 zw 129 136 Try.underlying65 hi hz0 hz1 hz2 zw_size (by decide) vc D.cache.length _ hown
    ⟨w.heap.size, 0, none⟩ 1 1 (wcells (n, b)) (by simp [wcells, hlb]) HN (one_wcells _) (by omega) (by unfold maxLen; omega) (by omega) (Nat.zero_le _) _ rfl
  refine ⟨g, c, w1, hr, h1, h2, ?_⟩
  rcases h3 with h3 | h3
  · exact .inl h3
  · exact .inr (by rw [h3]; exact World.size_alloc w _)

set_option maxRecDepth 100000 in
set_option maxHeartbeats 400000 in
theorem put_any (p : Nat) (vs vc : Value) (D : Dv) (w : World) (h : DevAt w p vs vc D) (B0 B1 B2 : Nat) (n : Nat) (ad : Addr) (cap : Nat) (b : List UInt8)
    (hB0 : w.heap[B0]? = some (.cells #[.pointer (some ⟨p, 0, none⟩)] 28 (0, 0))) (hB1 : w.heap[B1]? = some (.cells #[.int .i64 (n : Int)] 3 (0, 0)))
    (hB2 : w.heap[B2]? = some (.cells #[.slice (some ad) 128 cap] 23 (0, 0))) (hne : ¬ Foot p vs vc B0) (hb : Seg w ad (bys b)) (hl : b.length = 128) (hn : n < D.safe.length) (hfull : D.cache.length < 256) :
    Calls Try.prog 45 #[.pointer (some ⟨B0, 0, none⟩), .pointer (some ⟨B1, 0, none⟩), .pointer (some ⟨B2, 0, none⟩)] w fun e w' => e = .returned (.tuple #[]) ∧
      ∃ g c, DevAt w' p vs (.slice (some ⟨g, 0, none⟩) (D.cache.length + 1) c) { D with cache := D.cache ++ [(n, b)] } ∧ Fr (Foot p vs vc) w w' ∧ (vc.ownBlock = some g ∨ w.heap.size ≤ g) := by
  have hlb : (bys b).length = 128 := by rw [bys_length, hl]
  obtain ⟨g, c, w1, happ, hown1, hgrow1, hat⟩ := put_world p vs vc D w h n b hlb hfull
  obtain ⟨hp, c0, c1, c2, c3, c4, f0, f1, f2, f3, f4⟩ := blk5 h.blk
  have hB0lt : B0 < w.heap.size := (Array.getElem?_eq_some_iff.1 hB0).1
  have d0 : w.cell? ⟨B0, 0, none⟩ = some (.pointer (some ⟨p, 0, none⟩)) := cell_of_row w B0 0 _ _ _ hB0
  have d1 : w.cell? ⟨B1, 0, none⟩ = some (.int .i64 (n : Int)) := cell_of_row w B1 0 _ _ _ hB1
  have d2 : w.cell? ⟨B2, 0, none⟩ = some (.slice (some ad) 128 cap) := cell_of_row w B2 0 _ _ _ hB2
  obtain ⟨i0, hi, hz0, hz1, hz2⟩ := info_parts info85
  have hbs : (Instr.buildSlice 65 1 #[(0, .agg (.int .i64 (n : Int) :: bys b).toArray)]).run Try.prog w.drew = .ok (.slice (some ⟨w.heap.size, 0, none⟩) 1 1) (w.alloc (.cells (.int .i64 (n : Int) :: bys b).toArray 85)).drew :=
    run_buildSlice_one w.drew 65 85 i0 zw Try.underlying65 hi hz0 (.int .i64 (n : Int) :: bys b) (by rw [hz1]; simp [hlb]) (by simp) (by simp [hlb])
  have fr1 : Fr (fun k => vc.ownBlock = some k) w w1 := (((Fr.refl _ w).alloc _).drew).grown hgrow1 (fun k hk => .inl hk)
  have hp1 : w1.heap[p]? = some (.cells #[vs, vc, .int .i64 (D.plan : Int), .bool D.down, .int .i64 (D.calls : Int)] 67 (0, 0)) := (fr1.block p hp h.ne2).trans h.blk
  have hb1 : w1.heap[B0]? = some (.cells #[.pointer (some ⟨p, 0, none⟩)] 28 (0, 0)) := (fr1.block B0 hB0lt (fun e => hne (.inr (.inr e)))).trans hB0
  go_enter Try.func45, Try.ntmps45
  refine Flow.wp_region_flow [10, 11, 14] (fun i => if i = 12 ∨ i = 13 then 2 else 0) (fun i => if i = 0 ∨ i = 12 ∨ i = 13 then 2 else if i < 5 then 1 else 0)
    [0, 1, 2] [(0, 0), (0, 1), (0, 2), (1, 0), (1, 1), (2, 0), (2, 1), (3, 0), (3, 1), (4, 0), (4, 1), (5, 0), (6, 0), (7, 0), (8, 0), (9, 0), (12, 2), (13, 2)]
    (fun k => match k with | 0 => w.drew | 1 => (w.alloc (.cells (.int .i64 (n : Int) :: bys b).toArray 85)).drew | 2 => w1 | _ => w1.setCell ⟨p, 1, none⟩ (.slice (some ⟨g, 0, none⟩) (D.cache.length + 1) c))
    { tmps := #[.pointer (some ⟨B0, 0, none⟩), .pointer (some ⟨B1, 0, none⟩), .pointer (some ⟨B2, 0, none⟩), .pointer (some ⟨p, 0, none⟩), .pointer (some ⟨p, 0, none⟩), .pointer (some ⟨p, 0, none⟩), .pointer (some ⟨p, 1, none⟩), vc, .int .i64 (n : Int), .slice (some ad) 128 cap, .pointer (some ad), .agg (bys b).toArray, .agg (.int .i64 (n : Int) :: bys b).toArray, .slice (some ⟨w.heap.size, 0, none⟩) 1 1, .slice (some ⟨g, 0, none⟩) (D.cache.length + 1) c, .pointer (some ⟨p, 0, none⟩), .pointer (some ⟨p, 1, none⟩)], defers := [] }
    (by kernel_rfl) (by kernel_rfl) rfl rfl rfl ?start ?read ?mem ?post
  case start => intro t ht; simp only [List.mem_cons, List.not_mem_nil, or_false] at ht; rcases ht with rfl | rfl | rfl <;> rfl
  case read =>
    have e0 := cell_of_row w1 B0 0 _ _ _ hb1
    repeat' (first | refine List.forall_mem_cons.2 ⟨?_, ?_⟩ | exact List.forall_mem_nil _)
    · exact Flow.Runs.load rfl _ _ rfl rfl (by go_simp <;> rfl)
    · exact Flow.Runs.load rfl _ _ rfl rfl (by go_simp <;> rfl)
    · exact Flow.Runs.load rfl _ _ rfl rfl (by go_simp <;> rfl)
    · exact Flow.Runs.load rfl _ _ rfl rfl (by go_simp <;> rfl)
    · exact Flow.Runs.load rfl _ _ rfl rfl (by go_simp <;> rfl)
    · refine Flow.Runs.val rfl ?_; simp only [Flow.valOf, Flow.dst]; go_simp <;> rfl
    · refine Flow.Runs.val rfl ?_; simp only [Flow.valOf, Flow.dst]; go_simp <;> rfl
    · refine Flow.Runs.val rfl ?_; simp only [Flow.valOf, Flow.dst]; go_simp <;> rfl
    · refine Flow.Runs.val rfl ?_; simp only [Flow.valOf, Flow.dst]; go_simp <;> rfl
    · exact Flow.Runs.load rfl _ _ rfl rfl (by go_simp <;> rfl)
    · exact Flow.Runs.load rfl _ _ rfl rfl (by go_simp <;> rfl)
    · exact Flow.Runs.load rfl _ _ rfl rfl (by go_simp <;> rfl)
    · exact Flow.Runs.load rfl _ _ rfl rfl (by go_simp <;> rfl)
    · exact Flow.Runs.array rfl _ _ rfl rfl (run_array (some ad) 128 cap (Nat.le_refl _) w.drew)
    · exact Flow.Runs.load rfl _ _ rfl rfl (run_loadAt_arr (P := Try.prog) w.drew 83 ad (bys b) _ hb Try.underlying83 rfl (by rw [size83, hlb]))
    · exact Flow.Runs.build rfl _ _ rfl rfl _ (by simp [Act.eval]) (run_build85 (n : Int) (bys b) hlb w.drew)
    · refine Flow.Runs.val rfl ?_; simp only [Flow.valOf, Flow.dst]; go_simp <;> rfl
    · refine Flow.Runs.val rfl ?_; simp only [Flow.valOf, Flow.dst]; go_simp <;> rfl
  case mem =>
    intro x hx
    match x, hx with
    | 0, _ => exact Flow.Runs.buildSlice rfl _ _ _ rfl rfl _ (by simp [Act.eval]) hbs
    | 1, _ => exact Flow.Runs.append rfl _ _ _ rfl rfl happ
    | 2, _ =>
      have hf1 := frozen_of_row w1 p 1 _ _ hp1
      have hc1 := cell_of_row w1 p 1 _ _ _ hp1
      exact Flow.Runs.store rfl rfl _ _ _ rfl (by go_simp <;> rfl)
    | x + 3, hx => exact absurd hx (by simp)
  case post =>
    have fr2 : Fr (Foot p vs vc) w (w1.setCell ⟨p, 1, none⟩ (.slice (some ⟨g, 0, none⟩) (D.cache.length + 1) c)) :=
      Fr.setCell (p := ⟨p, 1, none⟩) (fr1.mono fun _ _ e => .inr (.inr e)) (.inl (.inl rfl)) _
    have hgp : g ≠ p := by
      rcases hat with e | e
      · intro e2; exact h.ne2 (by rw [e, e2])
      · omega
    have hsg : vs.ownBlock ≠ some g := by
      rcases hat with e | e
      · rw [← e]; exact h.ne3
      · intro e2; have := (h.safe.lt g e2).2; omega
    refine bodyPost_end (results_none rfl _ _ _) rfl ⟨rfl, g, c, ?_, fr2, hat.imp id (fun e => by omega)⟩
    refine ⟨blk_set hp1 rfl, ?_, ?_, h.ne1, by simp [Value.ownBlock, hgp], by simpa [Value.ownBlock] using hsg, h.lens, ?_, h.pos, h.most, by simp; omega, h.plan⟩
    · exact own_fr h.safe (Fr.setCell (S := fun k => vc.ownBlock = some k ∨ k = p) (p := ⟨p, 1, none⟩) (fr1.mono fun _ _ e => .inl e) (.inl (.inr rfl)) _)
        (fun k hk e => e.elim (fun e => h.ne3 (by rw [hk, e])) (fun e => h.ne1 (by rw [hk, e])))
    · have := own_fr hown1 (Fr.one w1 p 1 (.slice (some ⟨g, 0, none⟩) (D.cache.length + 1) c)) (fun k hk e => by simp [Value.ownBlock] at hk; exact hgp (by rw [hk, e]))
      simpa using this
    · intro x hx
      simp only [List.mem_append, List.mem_singleton] at hx
      rcases hx with hx | rfl
      · exact h.lenc x hx
      · exact ⟨hl, hn⟩
end Go.Proofs.Ytbmankbbkemkcaa
