/- The document's device: Flush, and what Put refuses. -/
import Derived.Test.YtbmankbbkemkcaaRefe
namespace Go.Proofs.Ytbmankbbkemkcaa
open Go.RowKit Go.Shelf Go.Maps

section
variable {w₀ w : World} {r mb n : Nat} {vc : Value} {Vs : List Value} {F : Nat → Option Value} {D : Dv}

/-- a document's device that stands for D -/
def RefE (w₀ w : World) (r mb N : Nat) (D : Dv) : Prop := ∃ n vc Vs F, n ≤ N ∧ RefAt w₀ w r mb n vc Vs F D

theorem refPut_not (h : RefAt w₀ w r mb n vc Vs F D) {i : Int} {ao : Option Addr} {len cap : Nat} (hno : D.up i ≠ 0 ∨ len ≠ 128 ∨ 256 ≤ D.cache.length) {x : Int} (hx : D.writeE i len = x) : Calls Try.prog 55 #[.pointer (some ⟨r, 0, none⟩), .int .i64 i, .slice ao len cap] w fun e w' => e = .returned (.int .i64 x) ∧ w = w' := by
  obtain ⟨hp, c0, c1, c2, c3, c4, c5, fz⟩ := blk6 h.blk
  obtain ⟨a2, cc, hvc, _⟩ := h.cacheForm
  rw [hvc] at c2
  subst hx
  have H := Lib.hid h
  clear h hvc
  unfold Dv.writeE
  rcases up_cases (D := D) (i := i) with ⟨h1, h2⟩ | ⟨h1, h3, h2⟩ | ⟨h1, h3, h4, h2⟩
  · rw [h1] at c4
    rw [h2, if_pos (by omega)]
    clear h2 hno h1
    go_enter Try.func55, Try.ntmps55
    go_wp2
    go_ret
    exact ⟨rfl, rfl⟩
  · rw [h1] at c4
    rw [h2, if_pos (by omega)]
    have H3 := Lib.hid h3
    clear h2 hno h1 h3
    go_enter Try.func55, Try.ntmps55
    go_wp2_with (go_at_call 75; refine (place_out H.out H3.out).mono ?_; rintro e w1 ⟨rfl, rfl⟩)
    go_ret
    exact ⟨rfl, rfl⟩
  · rw [h1] at c4
    rw [h2, if_neg (by omega)]
    have H3 := Lib.hid (And.intro h3 h4)
    by_cases hl : len = 128
    · have hf : (256 : Int) ≤ (D.cache.length : Int) := by omega
      rw [if_neg (by omega), if_pos (by omega)]
      have t1 : ((len : Int) == 128) = true := by simp [hl]
      have t2 : ((len : Int) != 128) = false := by simp [hl]
      subst hl
      clear h2 hno h1 h3 h4
      go_enter Try.func55, Try.ntmps55
      go_wp2_with (go_at_call 75; refine (place_in H.out H3.out.1 H3.out.2).mono ?_; rintro e w1 ⟨rfl, rfl⟩)
      go_ret
      exact ⟨rfl, rfl⟩
    · rw [if_pos (by omega)]
      have t1 : ((len : Int) == 128) = false := beq_eq_false_iff_ne.2 (by omega)
      clear h2 hno h1 h3 h4
      go_enter Try.func55, Try.ntmps55
      go_wp2_with (go_at_call 75; refine (place_in H.out H3.out.1 H3.out.2).mono ?_; rintro e w1 ⟨rfl, rfl⟩)
      go_ret
      exact ⟨rfl, rfl⟩

set_option maxRecDepth 100000 in
set_option maxHeartbeats 4000000 in
theorem refFlush_any (h : RefAt w₀ w r mb n vc Vs F D) (hcalls : D.calls < 4611686018427387904) (hpl : D.plan ≤ 9223372036854775807) (hful : D.cache.length ≤ 256) (hlc : ∀ x ∈ D.cache, x.2.length = 128 ∧ x.1 < D.safe.length) (hN : D.safe.length ≤ 65536) (hn : n + 256 < maxLen) {x : Int} (hx : D.flushE = x) {D' : Dv} (hD : D.flush = D') :
    Calls Try.prog 56 #[.pointer (some ⟨r, 0, none⟩)] w fun e w' => e = .returned (.int .i64 x) ∧ RefE w₀ w' r mb (n + 256) D' ∧ Fr (RS r mb vc) w w' := by
  obtain ⟨hp, c0, c1, c2, c3, c4, c5, fz⟩ := blk6 h.blk
  unfold Dv.flushE at hx
  unfold Dv.flush at hD
  cases hdn : D.down with
  | true =>
    rw [if_pos hdn] at hx hD
    subst hx hD
    rw [hdn] at c4
    have H := Lib.hid h
    clear h
    go_enter Try.func56, Try.ntmps56
    go_wp2
    go_ret
    exact ⟨rfl, ⟨n, vc, Vs, F, Nat.le_add_right _ _, H.out⟩, Fr.refl _ _⟩
  | false =>
    rw [if_neg (by simp [hdn])] at hx hD
    rw [hdn] at c4
    by_cases hp1 : D.plan = 1
    · rw [if_pos hp1] at hx hD
      subst hx hD
      have hb1 : (D.plan == 1) = true := by simp [hp1]
      have H := Lib.hid h
      have HB := Lib.hid hb1
      have hcalls' := Lib.hid hcalls
      clear h hb1 hp1
      go_enter Try.func56, Try.ntmps56
      go_wp2_with (go_at_call 76; refine (counts_any H.out hcalls'.out hpl).mono ?_; rw [HB.out]; rintro e w4 ⟨rfl, hR, hF⟩; have HR4 := Lib.hid hR; have HF4 := Lib.hid hF; clear hR hF)
      go_ret
      exact ⟨rfl, ⟨n, vc, Vs, F, Nat.le_add_right _ _, HR4.out⟩, HF4.out.mono fun k _ e => .inl e⟩
    · rw [if_neg hp1] at hx hD
      obtain ⟨ao, cc, rfl, _⟩ := h.cacheForm
      have hb1 : (D.plan == 1) = false := by simp [hp1]
      have hT : D.tick = { D with calls := D.calls + 1, plan := D.plan - 1 } := if_neg hp1
      have HT := Lib.hid hT
      clear hT
      have H := Lib.hid h
      have HB := Lib.hid hb1
      have HX := Lib.hid (And.intro hx (And.intro hD hp1))
      have HC := Lib.hid hlc
      clear h hb1 hp1 hx hD hlc
      go_enter Try.func56, Try.ntmps56
      go_wp2_with (go_at_call 76; refine (counts_any H.out hcalls hpl).mono ?_; rw [HB.out]; rintro e w4 ⟨rfl, hR, hF⟩; have HR4 := Lib.hid hR; have HF4 := Lib.hid hF; clear hR hF)
      have hR4 := HR4.out
      rw [HT.out] at hR4
      have HR4 := Lib.hid hR4
      clear hR4
      go_loopw [4] (fun kv wr => ∃ k : Nat, k ≤ D.cache.length ∧ kv = .int .i64 k ∧ ∃ F', RefAt w₀ wr r mb (n + k) (.slice ao D.cache.length cc) Vs F' { D with safe := (D.cache.take k).foldl put1 D.safe, calls := D.calls + 1, plan := D.plan - 1 } ∧ Fr (RS r mb (.slice ao D.cache.length cc)) w wr) (fun kv _ => D.cache.length - (intOf kv).toNat)
      case atStart => exact ⟨0, Nat.zero_le _, rfl, F, HR4.out, HF4.out.mono fun k _ e => .inl e⟩
      case round =>
        obtain ⟨k, hk, rfl, F', hR, hF⟩ := hrel
        obtain ⟨hp', d0, d1, d2, d3, d4, d5, fz'⟩ := blk6 hR.blk
        rcases Nat.lt_or_ge k D.cache.length with hlt | hge
        · obtain ⟨y, hy⟩ : ∃ y, D.cache[k]? = some y := ⟨D.cache[k], by simp [hlt]⟩
          obtain ⟨hy1, hy2⟩ := HC.out y (List.mem_of_getElem? hy)
          obtain ⟨ao', cc', eq, hent⟩ := hR.cacheForm
          simp at eq
          obtain ⟨rfl, rfl⟩ := eq
          obtain ⟨g, v, rfl, e1, e2, hh⟩ := hent k y hy
          obtain ⟨W, hrun, hM, hg⟩ := (show MapIs wr.drew mb (n + k) F' from hR.map).put (by omega) (i := y.1) (by omega) v
          have hg' : wr.grownBy W (some mb) := ⟨hg.os, hg.tape, hg.output, hg.size, hg.block⟩
          obtain ⟨hR2, hF2⟩ := hR.store hM hg' hh
          have nr : some r ≠ some mb := fun e => by
            obtain ⟨es, cl, hm⟩ := hR.mapBlk
            rw [← Option.some.inj e, hR.blk] at hm; cases hm
          have ng : some g ≠ some mb := fun e => by
            obtain ⟨es, cl, hm⟩ := hR.mapBlk
            obtain ⟨c, hc⟩ := hR.type59 (k := g) rfl
            rw [← Option.some.inj e, hc] at hm; cases hm
          have lg : g < wr.heap.size := by
            obtain ⟨c, hc⟩ := hR.type59 (k := g) rfl
            exact (Array.getElem?_eq_some_iff.1 hc).1
          have hst : (D.cache.take (k + 1)).foldl put1 D.safe = ((D.cache.take k).foldl put1 D.safe).set y.1 y.2 := by
            rw [List.take_add_one, hy, List.foldl_append]; rfl
          have HR2 := Lib.hid hR2
          have HF2 := Lib.hid (And.intro hF hF2)
          have HST := Lib.hid hst
          have hk0 : (0 : Int) ≤ (k : Int) := Int.natCast_nonneg _
          have hk1 : (k : Int) < (D.cache.length : Int) := by omega
          have z1 := (hg'.cell_far ⟨r, 1, none⟩ hp' nr).trans d1
          have z2 := (hg'.cell_far ⟨r, 2, none⟩ hp' nr).trans d2
          have z3 := (hg'.cell_far ⟨g, k * 2, none⟩ lg ng).trans e1
          have z4 := (hg'.cell_far ⟨g, k * 2 + 1, none⟩ lg ng).trans e2
          clear hR hF hent hM hg hg' hR2 hF2 hst hh hy
          go_wp2
          go_region_held3 (fun X => X.cell? ⟨r, 1, none⟩ = some (.map (some mb)) ∧ X.cell? ⟨r, 2, none⟩ = some (.slice (some ⟨g, 0, none⟩) D.cache.length cc) ∧ X.cell? ⟨g, k * 2, none⟩ = some (.int .i64 (y.1 : Int)) ∧ X.cell? ⟨g, k * 2 + 1, none⟩ = some v) (first | exact ⟨d1, d2, e1, e2⟩ | exact ⟨z1, z2, z3, z4⟩) (fail)
          go_wp2
          go_roundw
          case rel => exact ⟨k + 1, by omega, by go_num, _, by rw [HST.out]; exact HR2.out, HF2.out.1.trans' (HF2.out.2.mono fun k _ e => .inr (.inl e))⟩
          case measure => simp [intOf]; omega
        · have hkl : k = D.cache.length := by omega
          obtain ⟨hS, hSF⟩ := hR.strike
          have hD' : ({ D with safe := (D.cache.take k).foldl put1 D.safe, cache := [], calls := D.calls + 1, plan := D.plan - 1 } : Dv) = D' := by
            rw [← HX.out.2.1, hkl, List.take_length]
            exact (if_neg (show ¬ D.flushed.plan = 1 from HX.out.2.2)).symm
          have hS' : RefAt w₀ (wr.setCell ⟨r, 2, none⟩ nilS) r mb (n + k) nilS [] F' D' := hD' ▸ hS
          have HS := Lib.hid (And.intro hS' (hF.trans' (hSF.mono fun k _ e => .inl e)))
          have HKK : Hid (n + k ≤ n + 256) := by show n + k ≤ n + 256; omega
          clear hR hF hS hSF hkl hD' hS'
          go_wp2
          go_ret
          exact ⟨HX.out.1 ▸ rfl, ⟨_, _, _, _, HKK.out, HS.out.1⟩, HS.out.2⟩
end
end Go.Proofs.Ytbmankbbkemkcaa
