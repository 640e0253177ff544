/- The document's device: Restart. -/
import Derived.Test.YtbmankbbkemkcaaReff
import Derived.Test.YtbmankbbkemkcaaOps
import Derived.Deep.CutRange
namespace Go.Proofs.Ytbmankbbkemkcaa
open Go.RowKit Go.Shelf Go.Maps

theorem bit_two (b : UInt8) (m : Nat) (hm : m < 8) : (!(bits .and .u8 ((b.toNat : Int) / 2 ^ m) 1 == 0)) = (((b.toNat : Int) / 2 ^ m).tmod 2 == 1) := by
  have h : ∀ (x : Fin 256) (m : Fin 8), (!(bits .and .u8 (((x.1 : Nat) : Int) / 2 ^ m.1) 1 == 0)) = ((((x.1 : Nat) : Int) / 2 ^ m.1).tmod 2 == 1) := by decide +kernel
  exact h ⟨b.toNat, b.toNat_lt⟩ ⟨m, hm⟩

theorem own_set1 {w : World} {base g n cap i : Nat} {xs : List Value} (h : w.ownsRow base 5 1 (.slice (some ⟨g, 0, none⟩) n cap) n xs) (v : Value) : (w.setCell ⟨g, i, none⟩ v).ownsRow base 5 1 (.slice (some ⟨g, 0, none⟩) n cap) n (xs.set i v) := by
  rcases h with ⟨hl, ⟨e, _⟩ | ⟨g', cap', cur, e, hb, hg, h1, h2, h3, h4⟩⟩
  · cases e
  · cases e
    refine ⟨by rw [List.length_set]; exact hl, .inr ⟨g, cap, cur.setIfInBounds i v, rfl, hb, blk_set hg rfl, h1, h2, by simpa using h3, ?_⟩⟩
    rw [← h4]
    simp [List.take_set]

/-- what a restart leaves behind k writes -/
def upR (c : Cr) (D : Dv) (k : Nat) : List (List UInt8) := (c.comesFrom 0 (D.cache.take k)).foldl put2 D.safe
theorem upR_len (c : Cr) (D : Dv) (k : Nat) : (upR c D k).length = D.safe.length := fold2_length _ _
theorem upR_step (c : Cr) (D : Dv) (k : Nat) {x : Nat × List UInt8} (hx : D.cache[k]? = some x) : upR c D (k + 1) = (match c.many k with | none => upR c D k | some m => put2 (upR c D k) (x, m)) := by
  have hk := (List.getElem?_eq_some_iff.1 hx).1
  unfold upR
  rw [List.take_add_one, hx]
  show (c.comesFrom 0 (D.cache.take k ++ [x])).foldl put2 D.safe = _
  rw [Cr.comes_snoc, List.length_take, Nat.min_eq_left (by omega), Nat.zero_add, List.foldl_append]
  cases c.many k <;> rfl

theorem many_i (c : Cr) (k : Nat) {t a M0 M1 : Int} (hct : c.torn = t) (hca : c.at_ = a) (hM0 : (if c.bit k = true then 128 else 0) = M0) (hM1 : (if (k : Int) = t then a else M0) = M1) {i : Nat} (hi : i = (max 0 (min M1 128)).toNat) : (c.many k = none ∧ i = 0) ∨ c.many k = some i := by
  subst hct hca
  unfold Cr.many
  by_cases h : (k : Int) = c.torn
  · rw [if_pos h] at hM1 ⊢
    subst hM1
    exact .inr (by rw [hi])
  · rw [if_neg h] at hM1 ⊢
    subst hM1 hM0
    by_cases hb : c.bit k = true
    · rw [if_pos hb] at hi ⊢
      right; rw [hi]; rfl
    · rw [if_neg hb] at hi ⊢
      left; exact ⟨rfl, by rw [hi]; rfl⟩

theorem cur_step {B b : List UInt8} {i : Nat} (h1 : B.length = 128) (h2 : b.length = 128) (hi : i < 128) {e : UInt8} (he : B[i]? = some e) : (bys (B.take i ++ b.drop i)).set i (u8 e) = bys (B.take (i + 1) ++ b.drop (i + 1)) := by
  apply List.ext_getElem?
  intro j
  unfold bys
  have hl : (B.take i).length = i := by rw [List.length_take]; omega
  have hl2 : (B.take (i + 1)).length = i + 1 := by rw [List.length_take]; omega
  rcases Nat.lt_trichotomy j i with hj | hj | hj
  · rw [List.getElem?_set_ne (by omega), List.getElem?_map, List.getElem?_map, List.getElem?_append_left (by omega), List.getElem?_append_left (by omega), List.getElem?_take_of_lt hj, List.getElem?_take_of_lt (by omega)]
  · subst hj
    rw [List.getElem?_set_self (by simp [List.length_take]; omega), List.getElem?_map, List.getElem?_append_left (by omega), List.getElem?_take_of_lt (by omega), he]
    rfl
  · rw [List.getElem?_set_ne (by omega), List.getElem?_map, List.getElem?_map, List.getElem?_append_right (by omega), List.getElem?_append_right (by omega), hl, hl2, List.getElem?_drop, List.getElem?_drop]
    congr 2; omega

section
variable {w₀ w : World} {r mb n : Nat} {vc : Value} {Vs : List Value} {F : Nat → Option Value} {D : Dv}

theorem RefAt.not_old (h : RefAt w₀ w r mb n vc Vs F D) {k : Nat} (hk : k < w₀.heap.size) : ¬ RS r mb vc k := by
  rintro (e | e | e)
  · have := h.lr; omega
  · have := h.lm; omega
  · have := (h.cache.lt k e).1; omega

set_option maxRecDepth 100000 in
set_option maxHeartbeats 4000000 in
theorem refRestart_up (h : RefAt w₀ w r mb n vc Vs F D) (hdn : D.down = false) (v1 v2 v3 : Value) : Calls Try.prog 58 #[.pointer (some ⟨r, 0, none⟩), .agg #[v1, v2, v3]] w fun e w' => e = .returned (.int .i64 2) ∧ Below w.heap.size w w' := by
  obtain ⟨hp, c0, c1, c2, c3, c4, c5, fz⟩ := blk6 h.blk
  rw [hdn] at c4
  clear h
  go_enter Try.func58, Try.ntmps58
  go_wp2
  go_ret
  exact ⟨rfl, (Below.refl _ w).alloc (Nat.le_refl _) _⟩

set_option maxRecDepth 100000 in
set_option maxHeartbeats 4000000 in
theorem refRestart_any (h : RefAt w₀ w r mb n vc Vs F D) (hb0 : Below w₀.heap.size w₀ w) (hdn : D.down = true) (hful : D.cache.length ≤ 256) (hls : ∀ b ∈ D.safe, b.length = 128) (hlc : ∀ x ∈ D.cache, x.2.length = 128 ∧ x.1 < D.safe.length) (hN : D.safe.length ≤ 65536) (hn : n + 256 < maxLen) (c : Cr) {ak : Option Addr} {lk ck : Nat} (hlk : c.keep.length = lk) (hk : BytesV w₀ (.slice ak lk ck) c.keep) (hk64 : lk ≤ 64)
    {t a : Int} (hct : c.torn = t) (hca : c.at_ = a) {D' : Dv} (hD : D.restarted c = D') :
    Calls Try.prog 58 #[.pointer (some ⟨r, 0, none⟩), .agg #[.slice ak lk ck, .int .i64 t, .int .i64 a]] w fun e w' => e = .returned (.int .i64 0) ∧ RefE w₀ w' r mb (n + 256) D' ∧ Fr (RS r mb vc) w w' := by
  obtain ⟨hp, c0, c1, c2, c3, c4, c5, fz⟩ := blk6 h.blk
  rw [hdn] at c4
  obtain ⟨ao, cc, rfl, _⟩ := h.cacheForm
  have H := Lib.hid h
  have HC := Lib.hid (And.intro hlk (And.intro hk (And.intro hct (And.intro hca (And.intro hls (And.intro hlc hD))))))
  clear h hlk hk hct hca hls hlc hD
  go_enter Try.func58, Try.ntmps58
  go_wp2
  have hbx : Below w.heap.size w (w.alloc (.cells #[.slice ak lk ck, .int .i64 t, .int .i64 a] 25)) := (Below.refl _ w).alloc (Nat.le_refl _) _
  have hR0 := H.out.ko (.of_below hbx)
  have hB0 : (w.alloc (.cells #[.slice ak lk ck, .int .i64 t, .int .i64 a] 25)).heap[w.heap.size]? = some (.cells #[.slice ak lk ck, .int .i64 t, .int .i64 a] 25 (0, 0)) := Array.getElem?_push_size
  have HS0 := Lib.hid (And.intro hR0 (And.intro hB0 hbx))
  clear hbx hR0 hB0
  go_loopw [5] (fun kv wr => ∃ k : Nat, k ≤ D.cache.length ∧ kv = .int .i64 k ∧ ∃ F', RefAt w₀ wr r mb (n + k) (.slice ao D.cache.length cc) Vs F' { D with safe := upR c D k } ∧ Fr (RS r mb (.slice ao D.cache.length cc)) w wr ∧ wr.heap[w.heap.size]? = some (.cells #[.slice ak lk ck, .int .i64 t, .int .i64 a] 25 (0, 0))) (fun kv _ => D.cache.length - (intOf kv).toNat)
  case atStart => exact ⟨0, Nat.zero_le _, rfl, F, HS0.out.1, Fr.of_below HS0.out.2.2 _, HS0.out.2.1⟩
  case round =>
    obtain ⟨k, hk, rfl, F', hR, hF, hX⟩ := hrel
    obtain ⟨hp', d0, d1, d2, d3, d4, d5, fz'⟩ := blk6 hR.blk
    obtain ⟨hq, x0, x1, x2⟩ := cr_cells hX
    rcases Nat.lt_or_ge k D.cache.length with hlt | hge
    · obtain ⟨y, hy⟩ : ∃ y, D.cache[k]? = some y := ⟨D.cache[k], by simp [hlt]⟩
      have hst := upR_step c D k hy
      have HR := Lib.hid hR
      have HF := Lib.hid hF
      have HX := Lib.hid hX
      have HY := Lib.hid hy
      have HST := Lib.hid hst
      clear hR hF hX hy hst
      have hkb : Hid (∀ e, c.keep[k / 8]? = some e → ∃ ad, ak = some ad ∧ wr.cell? (ad.add (k / 8)) = some (.int .u8 (e.toNat : Int))) := by
        intro e he
        rcases HC.out.2.1 with ⟨ad, cap, eq, hlt', hs⟩ | ⟨_, h0⟩
        · simp at eq
          obtain ⟨rfl, _⟩ := eq
          have hne : ad.block < w₀.heap.size := hlt'.resolve_left (fun h => by rw [h] at he; simp at he)
          refine ⟨ad, rfl, ?_⟩
          have h1 := hs (k / 8) (.int .u8 (e.toNat : Int)) (by simp [bys, he])
          refine (World.cell?_of_block ?_).trans h1
          rw [add_blk]
          exact (HF.out.block _ (Nat.lt_of_lt_of_le hne hb0.size) (H.out.not_old hne)).trans (hb0.block _ hne)
        · rw [h0] at he; simp at he
      obtain ⟨M0, hM0⟩ : ∃ M : Int, (if c.bit k = true then 128 else 0) = M := ⟨_, rfl⟩
      obtain ⟨M1, hM1⟩ : ∃ M : Int, (if (k : Int) = t then a else M0) = M := ⟨_, rfl⟩
      have HM := Lib.hid (And.intro hM0 hM1)
      clear hM0 hM1
      go_upto_region 7 with fail
      go_cut [41] from 14 to 93 (fun m wx => m = .bool (c.bit k) ∧ wx = wr)
      case first =>
        by_cases hb8 : k / 8 < lk
        · obtain ⟨e, he⟩ : ∃ e, c.keep[k / 8]? = some e := ⟨c.keep[k / 8]'(by rw [HC.out.1]; exact hb8), by simp⟩
          obtain ⟨ad, rfl, he2⟩ := hkb.out e he
          have hbk : c.bit k = (((e.toNat : Int) / 2 ^ (k % 8)).tmod 2 == 1) := by
            rw [← bit_two e (k % 8) (Nat.mod_lt _ (by omega))]
            unfold Cr.bit
            rw [he]
          have HBK := Lib.hid hbk
          clear hbk he
          go_wp2_with fail
          go_meet
          case rel => exact ⟨by rw [HBK.out], rfl⟩
        · have hbt : c.bit k = false := by
            unfold Cr.bit
            rw [List.getElem?_eq_none (by rw [HC.out.1]; omega)]
          have HBK := Lib.hid hbt
          clear hbt
          go_wp2_with fail
          go_meet
          case rel => exact ⟨by rw [HBK.out], rfl⟩
      case rest =>
        obtain ⟨rfl, rfl⟩ := hcut
        go_upto_if 41 with fail
        go_cut [6] from 14 to 93 (fun m wx => m = .int .i64 M0 ∧ wx = wc)
        case first =>
          have hm0 := HM.out.1
          cases hbk : c.bit k with
          | true =>
            rw [hbk, if_pos rfl] at hm0
            have HM0 := Lib.hid hm0
            clear hm0
            go_wp2_with fail
            go_meet
            case rel => exact ⟨by rw [HM0.out], rfl⟩
          | false =>
            rw [hbk, if_neg (by simp)] at hm0
            have HM0 := Lib.hid hm0
            clear hm0
            go_wp2_with fail
            go_meet
            case rel => exact ⟨by rw [HM0.out], rfl⟩
        case rest =>
          obtain ⟨rfl, rfl⟩ := hcut
          go_upto_if 45 with fail
          go_cut [6] from 14 to 93 (fun m wx => m = .int .i64 M1 ∧ wx = wc)
          case first =>
            have hm1 := HM.out.2
            by_cases hkt : (k : Int) = t
            · rw [if_pos hkt] at hm1
              have hk2 : ((k : Int) == t) = true := by simp [hkt]
              have HM1 := Lib.hid hm1
              clear hm1 hkt
              go_wp2_with fail
              go_meet
              case rel => exact ⟨by rw [HM1.out], rfl⟩
            · rw [if_neg hkt] at hm1
              have hk2 : ((k : Int) == t) = false := beq_eq_false_iff_ne.2 hkt
              have HM1 := Lib.hid hm1
              clear hm1 hkt
              go_wp2_with fail
              go_meet
              case rel => exact ⟨by rw [HM1.out], rfl⟩
          case rest =>
            obtain ⟨rfl, rfl⟩ := hcut
            obtain ⟨ao', cc', eq, hent⟩ := HR.out.cacheForm
            simp at eq
            obtain ⟨rfl, rfl⟩ := eq
            obtain ⟨g, v, rfl, e1, e2, hh⟩ := hent k y HY.out
            obtain ⟨gB, capB, rfl⟩ := hh.form
            obtain ⟨hy1, hy2⟩ := HC.out.2.2.2.2.2.1 y (List.mem_of_getElem? HY.out)
            obtain ⟨b, hb⟩ : ∃ b, (upR c D k)[y.1]? = some b := ⟨(upR c D k)[y.1]'(by rw [upR_len]; exact hy2), by simp⟩
            have HBB := Lib.hid hb
            have HHH := Lib.hid hh
            clear hent hh hb
            go_wp2_with (go_at_call 27; refine (at_any HR.out y.1 (by omega) b HBB.out).mono ?_; rintro e w5 ⟨g1, cap1, rfl, hO, hbel⟩; have HO := Lib.hid (And.intro hO hbel); clear hO hbel)
            have hbl : b.length = 128 := lens_comes c (D.cache.take k) D.safe HC.out.2.2.2.2.1 (fun x hx => HC.out.2.2.2.2.2.1 x (List.mem_of_mem_take hx)) b (List.mem_of_getElem? HBB.out)
            go_loopw [8] (fun iv wr' => ∃ i : Nat, i ≤ 128 ∧ (i : Int) ≤ max 0 M1 ∧ iv = .int .i64 i ∧ wr'.ownsRow wc.heap.size 5 1 (.slice (some ⟨g1, 0, none⟩) 128 cap1) 128 (bys (y.2.take i ++ b.drop i)) ∧ Below wc.heap.size wc wr') (fun iv _ => 128 - (intOf iv).toNat)
            case atStart => exact ⟨0, by omega, by omega, rfl, HO.out.1, HO.out.2⟩
            case round =>
              obtain ⟨i, hi, hiM, rfl, hO, hbel⟩ := hrel
              have z1 := (Below.cell (p := ⟨r, 1, none⟩) hbel hp').trans d1
              have z2 := (Below.cell (p := ⟨r, 2, none⟩) hbel hp').trans d2
              by_cases hgo : i < 128 ∧ (i : Int) < M1
              · obtain ⟨e, he⟩ : ∃ e, y.2[i]? = some e := ⟨y.2[i]'(by omega), by simp⟩
                have eB : wc.cell? ⟨gB, i, none⟩ = some (.int .u8 (e.toNat : Int)) := by
                  rw [← addk]
                  exact HHH.out.1.cells (g := gB) rfl i _ (by simp [bys, he])
                have z3 := (Below.cell (p := ⟨gB, i, none⟩) hbel (cell_lt eB)).trans eB
                have z4 := (Below.cell (p := ⟨g, k * 2 + 1, none⟩) hbel (cell_lt e2)).trans e2
                have hcs := cur_step hy1 hbl hgo.1 he
                obtain ⟨e', he'⟩ : ∃ e, (bys (y.2.take i ++ b.drop i))[i]? = some e := ⟨(bys (y.2.take i ++ b.drop i))[i]'(by simp [bys, List.length_take]; omega), by simp⟩
                have z5 : wr.cell? ⟨g1, i, none⟩ = some e' := by
                  rw [← addk]
                  exact hO.cells (g := g1) rfl i _ he'
                have z6 : wr.frozen? ⟨g1, i, none⟩ = false := by
                  rcases hO.2 with ⟨e3, _⟩ | ⟨g3, cap3, cur3, e3, _, hg3, _⟩
                  · cases e3
                  · cases e3; exact frozen_of_row _ _ _ _ _ hg3
                have hg1 : wc.heap.size ≤ g1 := (hO.lt g1 rfl).1
                have hO2 := own_set1 (i := i) hO (.int .u8 (e.toNat : Int))
                rw [hcs] at hO2
                have hB2 : Below wc.heap.size wc (wr.setCell ⟨g1, i, none⟩ (.int .u8 (e.toNat : Int))) := hbel.setCell (p := ⟨g1, i, none⟩) hg1 _
                have HO2 := Lib.hid (And.intro hO2 hB2)
                have t1 : (i : Int) < 128 := by omega
                have t2 : (i : Int) < M1 := hgo.2
                have hi0 : (0 : Int) ≤ (i : Int) := Int.natCast_nonneg _
                have hk0 : (0 : Int) ≤ (k : Int) := Int.natCast_nonneg _
                have hk1 : (k : Int) < (D.cache.length : Int) := by omega
                clear hO hbel hcs he he' hO2 hB2 hg1 hgo
                go_wp2
                go_roundw
                case rel => exact ⟨i + 1, by omega, by omega, by go_num, HO2.out.1, HO2.out.2⟩
                case measure => simp [intOf]; omega
              · have him : i = (max 0 (min M1 128)).toNat := by omega
                have z3 := (Below.cell (p := ⟨g, k * 2, none⟩) hbel (cell_lt e1)).trans e1
                have hw0 : w₀.heap.size ≤ wc.heap.size := Nat.le_trans hb0.size HF.out.size
                have hnl : (y.2.take i ++ b.drop i).length = 128 := by rw [List.length_append, List.length_take, List.length_drop]; omega
                have hR6 := HR.out.ko (.of_below hbel)
                obtain ⟨W, hrun, hM, hg⟩ := (show MapIs wr.drew mb (n + k) F' from hR6.map).put (by omega) (i := y.1) (by omega) (.slice (some ⟨g1, 0, none⟩) 128 cap1)
                have hg' : wr.grownBy W (some mb) := ⟨hg.os, hg.tape, hg.output, hg.size, hg.block⟩
                obtain ⟨hR7, hF7⟩ := hR6.store (b := y.2.take i ++ b.drop i) hM hg' ⟨own_base hO hw0, hnl⟩
                have hup : (upR c D k).set y.1 (y.2.take i ++ b.drop i) = upR c D (k + 1) := by
                  rw [HST.out]
                  rcases many_i c k HC.out.2.2.1 HC.out.2.2.2.1 HM.out.1 HM.out.2 him with ⟨e3, e4⟩ | e3
                  · rw [e3, e4]
                    have : (upR c D k)[y.1]? = some b := HBB.out
                    obtain ⟨hlt', heq⟩ := List.getElem?_eq_some_iff.1 this
                    simp [← heq]
                  · rw [e3]
                    show _ = (upR c D k).set y.1 (y.2.take i ++ ((upR c D k).getD y.1 []).drop i)
                    rw [List.getD, HBB.out]; rfl
                have nr : some r ≠ some mb := fun e => by
                  obtain ⟨es, cl, hm⟩ := hR6.mapBlk
                  rw [← Option.some.inj e, hR6.blk] at hm; cases hm
                have ng : some g ≠ some mb := fun e => by
                  obtain ⟨es, cl, hm⟩ := hR6.mapBlk
                  obtain ⟨c', hc⟩ := hR6.type59 (k := g) rfl
                  rw [← Option.some.inj e, hc] at hm; cases hm
                have hX6 : wr.heap[w.heap.size]? = _ := (hbel.block _ hq).trans HX.out
                have hX7 := (hg'.block _ (Array.getElem?_eq_some_iff.1 hX6).1 (fun e => by
                  obtain ⟨es, cl, hm⟩ := hR6.mapBlk
                  rw [← Option.some.inj e, hX6] at hm; cases hm)).trans hX6
                have y1 := (hg'.cell_far ⟨r, 1, none⟩ (Nat.lt_of_lt_of_le hp' hbel.size) nr).trans z1
                have y2 := (hg'.cell_far ⟨r, 2, none⟩ (Nat.lt_of_lt_of_le hp' hbel.size) nr).trans z2
                have y3 := (hg'.cell_far ⟨g, k * 2, none⟩ (cell_lt z3) ng).trans z3
                have hR8 : RefAt w₀ W r mb (n + (k + 1)) (.slice (some ⟨g, 0, none⟩) D.cache.length cc) Vs _ { D with safe := upR c D (k + 1) } := hup ▸ hR7
                have HFIN := Lib.hid (And.intro hR8 (And.intro ((HF.out.trans' (Fr.of_below hbel _)).trans' (hF7.mono fun k _ e => .inr (.inl e))) hX7))
                have hk0 : (0 : Int) ≤ (k : Int) := Int.natCast_nonneg _
                have hk1 : (k : Int) < (D.cache.length : Int) := by omega
                clear hO hbel hR6 hM hg hg' hR7 hF7 hup hX6 hX7 hR8 nr ng hnl him hiM
                by_cases hi8 : i < 128
                · have t1 : (i : Int) < 128 := by omega
                  have t2 : ¬ (i : Int) < M1 := fun h => hgo ⟨hi8, h⟩
                  clear hgo
                  go_wp2
                  go_region_held3 (fun X => X.cell? ⟨r, 1, none⟩ = some (.map (some mb)) ∧ X.cell? ⟨r, 2, none⟩ = some (.slice (some ⟨g, 0, none⟩) D.cache.length cc) ∧ X.cell? ⟨g, k * 2, none⟩ = some (.int .i64 (y.1 : Int))) (first | exact ⟨z1, z2, z3⟩ | exact ⟨y1, y2, y3⟩) (fail)
                  go_wp2
                  go_roundw
                  (next => exact ⟨k + 1, by omega, by go_num, _, HFIN.out.1, HFIN.out.2.1, HFIN.out.2.2⟩)
                  (next => simp [intOf]; omega)
                · have t1 : ¬ (i : Int) < 128 := by omega
                  clear hgo
                  go_wp2
                  go_region_held3 (fun X => X.cell? ⟨r, 1, none⟩ = some (.map (some mb)) ∧ X.cell? ⟨r, 2, none⟩ = some (.slice (some ⟨g, 0, none⟩) D.cache.length cc) ∧ X.cell? ⟨g, k * 2, none⟩ = some (.int .i64 (y.1 : Int))) (first | exact ⟨z1, z2, z3⟩ | exact ⟨y1, y2, y3⟩) (fail)
                  go_wp2
                  go_roundw
                  (next => exact ⟨k + 1, by omega, by go_num, _, HFIN.out.1, HFIN.out.2.1, HFIN.out.2.2⟩)
                  (next => simp [intOf]; omega)
    · have hkl : k = D.cache.length := by omega
      obtain ⟨hS, hSF⟩ := hR.strike
      have hf := ((Fr.refl (fun k => k = r) (wr.setCell ⟨r, 2, none⟩ nilS)).setCell (p := ⟨r, 4, none⟩) (.inl rfl) (.bool false)).setCell (p := ⟨r, 3, none⟩) (.inl rfl) (.int .i64 0)
      have hD' : ({ D with safe := upR c D k, cache := [], down := false, plan := 0 } : Dv) = D' := by
        rw [← HC.out.2.2.2.2.2.2]
        unfold upR Dv.restarted
        rw [hkl, List.take_length]
      have hS2 : RefAt w₀ _ r mb (n + k) nilS [] F' { D with safe := upR c D k, cache := [], down := false, plan := 0 } := hS.turn hf rfl rfl (blk_set (blk_set hS.blk rfl) (by simp))
      have hS3 : RefAt w₀ _ r mb (n + k) nilS [] F' D' := hD' ▸ hS2
      have HS := Lib.hid (And.intro hS3 (hF.trans' ((hSF.trans' hf).mono fun k _ e => .inl e)))
      have HKK : Hid (n + k ≤ n + 256) := by show n + k ≤ n + 256; omega
      clear hR hF hS hSF hf hD' hS2 hS3 hkl
      go_wp2
      go_ret
      exact ⟨rfl, ⟨_, _, _, _, HKK.out, HS.out.1⟩, HS.out.2⟩
end
end Go.Proofs.Ytbmankbbkemkcaa
