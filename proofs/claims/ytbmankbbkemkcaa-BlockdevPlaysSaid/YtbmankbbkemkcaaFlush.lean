/- Flush. -/
import Derived.Test.YtbmankbbkemkcaaWrite
namespace Go.Proofs.Ytbmankbbkemkcaa
open Go.RowKit

def put1 (safe : List (List UInt8)) (x : Nat × List UInt8) : List (List UInt8) := safe.set x.1 x.2
def Dv.upto (D : Dv) (k : Nat) : Dv := { D with safe := (D.cache.take k).foldl put1 D.safe }
def Dv.flushed (D : Dv) : Dv := { D with safe := D.cache.foldl put1 D.safe, cache := [] }

theorem fold_len (l : List (Nat × List UInt8)) : ∀ s : List (List UInt8), (l.foldl put1 s).length = s.length := by
  induction l with
  | nil => intro s; rfl
  | cons x l ih => intro s; rw [List.foldl_cons, ih]; simp [put1]
theorem upto_len (D : Dv) (k : Nat) : (D.upto k).safe.length = D.safe.length := fold_len _ _

set_option maxRecDepth 100000 in
set_option maxHeartbeats 1000000 in
theorem flush2 (p : Nat) (vs vc : Value) (D : Dv) (w : World) (h : DevAt w p vs vc D) (B0 : Nat) (hB0 : w.heap[B0]? = some (.cells #[.pointer (some ⟨p, 0, none⟩)] 28 (0, 0))) (hne : ¬ Foot p vs vc B0) :
    Calls Try.prog 48 #[.pointer (some ⟨B0, 0, none⟩)] w fun e w' => e = .returned (.tuple #[]) ∧ DevAt w' p vs (.slice none 0 0) D.flushed ∧ Fr (Foot p vs vc) w w' := by
  obtain ⟨hp, c0, c1, c2, c3, c4, f0, f1, f2, f3, f4⟩ := blk5 h.blk
  have hB0lt : B0 < w.heap.size := (Array.getElem?_eq_some_iff.1 hB0).1
  have d0 : w.cell? ⟨B0, 0, none⟩ = some (.pointer (some ⟨p, 0, none⟩)) := cell_of_row w B0 0 _ _ _ hB0
  obtain ⟨gs, caps, hvs, hgs⟩ := h.safeForm
  obtain ⟨ao, capc, hvc, hao1, hao2⟩ := h.cacheForm
  have HC1 := Lib.hid c1
  rw [hvs] at c0
  rw [hvc] at c1
  have hm := h.full
  obtain ⟨i0, hi, hz0, hz1, hz2⟩ := info_parts info85
  have HV := Lib.hid (And.intro hvs hvc)
  have H := Lib.hid h
  clear h hvs hvc
  go_enter Try.func48, Try.ntmps48
  go_wp2_with fail
  go_loopw [8] (fun i wr => ∃ k : Nat, k ≤ D.cache.length ∧ i = .int .i64 k ∧ DevAt wr p vs vc (D.upto k) ∧ Fr (fun j => vs.ownBlock = some j) w wr) (fun i _ => D.cache.length - (intOf i).toNat)
  case atStart => exact ⟨0, Nat.zero_le _, rfl, by simpa [Dv.upto] using H.out, Fr.refl _ _⟩
  case round =>
    obtain ⟨k, hk, rfl, hd, hfr⟩ := hrel
    have hB0r : wr.heap[B0]? = some (.cells #[.pointer (some ⟨p, 0, none⟩)] 28 (0, 0)) := (hfr.block B0 hB0lt (fun e => hne (.inr (.inl e)))).trans hB0
    have e0 : wr.cell? ⟨B0, 0, none⟩ = some (.pointer (some ⟨p, 0, none⟩)) := cell_of_row wr B0 0 _ _ _ hB0r
    have hB0rl : B0 < wr.heap.size := (Array.getElem?_eq_some_iff.1 hB0r).1
    have hkb := hd.blk
    obtain ⟨rp, r0, r1, r2, r3, r4, g0, g1, g2, g3, g4⟩ := blk5 hkb
    rw [HV.out.1] at r0
    rw [HV.out.2] at r1
    have HD := Lib.hid hd
    have HKB := Lib.hid hkb
    clear hkb hd
    by_cases hlt : k < D.cache.length
    · obtain ⟨gc, rfl, hgc⟩ : ∃ g, ao = some ⟨g, 0, none⟩ ∧ g < w.heap.size := by
        cases ao with
        | none => have := hao1 rfl; omega
        | some a => obtain ⟨g, rfl, hg⟩ := hao2 a rfl; exact ⟨g, rfl, hg⟩
      obtain ⟨x, hx⟩ : ∃ x, D.cache[k]? = some x := ⟨D.cache[k], by simp [hlt]⟩
      have hseg : Seg wr ⟨gc, k * 129, none⟩ (wcells x) := by
        have := HD.out.cache
        rw [HV.out.2] at this
        exact own_seg this rfl (fun y hy => by simp [wcells, bys_length, (HD.out.lenc y hy).1]) k x hx
      have HS := Lib.hid hseg
      have HX := Lib.hid hx
      have hxl : x.2.length = 128 := (HD.out.lenc x (List.mem_of_getElem? hx)).1
      have HW : Hid (Option.map (fun x => x.size) (Try.prog.info? 85) = some (wcells x).length) := by show _ = _; rw [size85]; simp [wcells, bys_length, hxl]
      have HL : Hid (i0.size = (wcells x).length ∧ zw.cells.size = (wcells x).length) := ⟨by rw [hz1]; simp [wcells, bys_length, hxl], by rw [zw_size]; simp [wcells, bys_length, hxl]⟩
      clear hseg hx
      go_wp2_with (first | ((with_reducible refine wpList_loadS 85 rfl _ rfl _ rfl _ _ HS.out Try.underlying85 rfl HW.out ?_); simp only [Act.put, List.setIfInBounds_toArray, List.set_cons_zero, List.set_cons_succ]) | ((with_reducible refine wpList_newS 85 rfl rfl rfl 2 rfl _ rfl rfl ?_ (wcells x) ?_ i0 zw hi hz0 HL.out.1 HL.out.2 (one_wcells x) ?_); (next => simp); (next => rfl); simp only [Act.put, List.setIfInBounds_toArray, List.set_cons_zero, List.set_cons_succ]))
      -- the store
      have hxn : x.1 < D.safe.length := (H.out.lenc x (List.mem_of_getElem? HX.out)).2
      have hlens : (D.upto k).safe.length = D.safe.length := upto_len D k
      have hown := HD.out.safe
      rw [HV.out.1, hlens] at hown
      have hown1 : (wr.alloc (.cells (wcells x).toArray 85)).drew.ownsRow 0 83 128 (.slice (some ⟨gs, 0, none⟩) D.safe.length caps) D.safe.length ((D.upto k).safe.flatMap bys) :=
        own_fr hown (((Fr.refl (fun _ => False) wr).alloc _).drew) (fun _ _ e => e)
      obtain ⟨cur, hcur, hfit, hown2⟩ := own_set hown1 hlens (fun y hy => by rw [bys_length]; exact HD.out.lens y hy) x.1 x.2 hxn (by rw [bys_length]; exact hxl)
      have hst := run_storeAt_arr (P := Try.prog) _ 83 gs (x.1 * 128) (bys x.2) cur 83 hcur hfit (one_bys _) (by rw [size83, bys_length, hxl])
      have q0 : (wr.alloc (.cells (wcells x).toArray 85)).cell? ⟨wr.heap.size, 0, none⟩ = some (.int .i64 (x.1 : Int)) := by
        rw [cell_of_row _ _ 0 _ 85 (0, 0) (heap_alloc_new wr _)]; simp [wcells]
      have hseg1 : Seg (wr.alloc (.cells (wcells x).toArray 85)).drew ⟨wr.heap.size, 1, none⟩ (bys x.2) := by
        intro j u hj
        rw [Addr.add_mid']
        show (wr.alloc _).cell? _ = _
        rw [cell_of_row _ _ _ _ 85 (0, 0) (heap_alloc_new wr _)]
        simpa [wcells, Nat.add_comm 1 j] using hj
      have hld := run_loadAt_arr (P := Try.prog) (wr.alloc (.cells (wcells x).toArray 85)).drew 83 ⟨wr.heap.size, 1, none⟩ (bys x.2) _ hseg1 Try.underlying83 rfl (by rw [size83, bys_length, hxl])
      have HST := Lib.hid hst
      have HLD := Lib.hid hld
      have HO2 := Lib.hid hown2
      have HC := Lib.hid hcur
      clear hst hld hown2 hown1 hown hseg1 hcur
      refine Flow.wp_region_flow [9] (fun _ => 0) (fun _ => 0) [0, 1, 2, 3, 4, 5, 6, 7, 8, 9, 10, 11, 21, 22, 23, 24] [(0, 0), (1, 0), (2, 0), (3, 0), (4, 0), (5, 0), (6, 0), (7, 0), (8, 0)]
        (fun c => match c with | 0 => (wr.alloc (.cells (wcells x).toArray 85)).drew | _ => (wr.alloc (.cells (wcells x).toArray 85)).drew.setRow gs (cur.toList.take (x.1 * 128) ++ bys x.2 ++ cur.toList.drop (x.1 * 128 + (bys x.2).length)).toArray)
        { tmps := #[.pointer (some ⟨B0, 0, none⟩), undef, .pointer (some ⟨wr.heap.size, 0, none⟩), .pointer (some ⟨p, 0, none⟩), .pointer (some ⟨p, 0, none⟩), .pointer (some ⟨p, 1, none⟩), .slice (some ⟨gc, 0, none⟩) D.cache.length capc, .int .i64 (D.cache.length : Int), .int .i64 (k : Int), .bool true, .pointer (some ⟨gc, k * 129, none⟩), .agg (wcells x).toArray,
            .pointer (some ⟨p, 0, none⟩), .pointer (some ⟨p, 0, none⟩), .pointer (some ⟨p, 0, none⟩), .slice (some ⟨gs, 0, none⟩) D.safe.length caps, .pointer (some ⟨wr.heap.size, 0, none⟩), .int .i64 (x.1 : Int), .pointer (some ⟨wr.heap.size, 1, none⟩), .agg (bys x.2).toArray, .pointer (some ⟨gs, x.1 * 128, none⟩), u21, undef, undef, undef], defers := [] }
        (by kernel_rfl) (by kernel_rfl) rfl rfl rfl ?_ ?_ ?_ ?_
      · intro t ht; simp only [List.mem_cons, List.not_mem_nil, or_false] at ht; rcases ht with rfl | rfl | rfl | rfl | rfl | rfl | rfl | rfl | rfl | rfl | rfl | rfl | rfl | rfl | rfl | rfl <;> rfl
      · repeat' (first | refine List.forall_mem_cons.2 ⟨?_, ?_⟩ | exact List.forall_mem_nil _)
        · exact Flow.Runs.load rfl _ _ rfl rfl (by go_simp <;> rfl)
        · refine Flow.Runs.val rfl ?_; simp only [Flow.valOf, Flow.dst]; go_simp <;> rfl
        · refine Flow.Runs.val rfl ?_; simp only [Flow.valOf, Flow.dst]; go_simp <;> rfl
        · exact Flow.Runs.load rfl _ _ rfl rfl (by go_simp <;> rfl)
        · refine Flow.Runs.val rfl ?_; simp only [Flow.valOf, Flow.dst]; go_simp <;> rfl
        · exact Flow.Runs.load rfl _ _ rfl rfl (by go_simp <;> rfl)
        · refine Flow.Runs.val rfl ?_; simp only [Flow.valOf, Flow.dst]; go_simp <;> rfl
        · exact Flow.Runs.load rfl _ _ rfl rfl HLD.out
        · refine Flow.Runs.val rfl ?_; simp only [Flow.valOf, Flow.dst]; go_simp <;> rfl
      · intro y hy
        match y, hy with
        | 0, _ => exact Flow.Runs.store rfl rfl _ _ _ rfl HST.out
        | y + 1, hy => exact absurd hy (by simp)
      · have hw1 : DevAt ((wr.alloc (.cells (wcells x).toArray 85)).drew.setRow gs (cur.toList.take (x.1 * 128) ++ bys x.2 ++ cur.toList.drop (x.1 * 128 + (bys x.2).length)).toArray) p vs vc (D.upto (k + 1)) ∧
            Fr (fun j => vs.ownBlock = some j) w ((wr.alloc (.cells (wcells x).toArray 85)).drew.setRow gs (cur.toList.take (x.1 * 128) ++ bys x.2 ++ cur.toList.drop (x.1 * 128 + (bys x.2).length)).toArray) := by
          have hfr2 : Fr (fun j => vs.ownBlock = some j) wr ((wr.alloc (.cells (wcells x).toArray 85)).drew.setRow gs (cur.toList.take (x.1 * 128) ++ bys x.2 ++ cur.toList.drop (x.1 * 128 + (bys x.2).length)).toArray) :=
            Fr.setRow (((Fr.refl _ wr).alloc _).drew) (.inl (by rw [HV.out.1]; rfl)) _
          have hup : (D.upto (k + 1)).safe = (D.upto k).safe.set x.1 x.2 := by
            simp only [Dv.upto, List.take_add_one, HX.out, Option.toList_some, List.foldl_append, List.foldl_cons, List.foldl_nil, put1]
          have hdk := HD.out
          refine ⟨⟨(hfr2.block p rp hdk.ne1).trans hdk.blk, ?_, own_fr hdk.cache hfr2 (fun j hj e => hdk.ne3 (by rw [hj, e])), hdk.ne1, hdk.ne2, hdk.ne3, ?_, ?_, ?_, ?_, hdk.full, hdk.plan⟩, hfr.trans (hfr2.mono fun _ _ e => .inl e)⟩
          · rw [upto_len, hup, HV.out.1]; exact HO2.out
          · rw [hup]
            intro b hb
            rcases List.mem_or_eq_of_mem_set hb with hb | rfl
            · exact hdk.lens b hb
            · exact hxl
          · rw [upto_len]; exact H.out.lenc
          · rw [upto_len]; exact H.out.pos
          · rw [upto_len]; exact H.out.most
        have HW1 := Lib.hid hw1
        clear hw1
        simp only [List.length_cons, List.length_nil, Nat.zero_add]
        generalize ((wr.alloc (.cells (wcells x).toArray 85)).drew.setRow gs (cur.toList.take (x.1 * 128) ++ bys x.2 ++ cur.toList.drop (x.1 * 128 + (bys x.2).length)).toArray) = W1 at HW1 ⊢
        go_wp2
        go_roundw
        case rel => exact ⟨k + 1, by omega, by go_num, HW1.out.1, HW1.out.2⟩
        case measure => simp [intOf]; omega
    · obtain rfl : k = D.cache.length := by omega
      go_wp2
      go_end0
      have hdk := HD.out
      have hfr2 := Fr.one wr p 1 (.slice none 0 0)
      have hup : (D.upto D.cache.length).safe = D.flushed.safe := by simp [Dv.upto, Dv.flushed]
      refine ⟨rfl, ⟨blk_set hdk.blk rfl, ?_, World.ownsRow_nil _ _ _ _, hdk.ne1, by simp [Value.ownBlock], ?_, ?_, ?_, ?_, ?_, by simp [Dv.flushed], hdk.plan⟩, ?_⟩
      · have := own_fr hdk.safe hfr2 (fun j hj e => hdk.ne1 (by rw [hj, e]))
        rw [hup] at this
        exact this
      · rw [HV.out.1]; simp [Value.ownBlock]
      · rw [← hup]; exact hdk.lens
      · simp [Dv.flushed]
      · rw [← hup]; exact hdk.pos
      · rw [← hup]; exact hdk.most
      · exact (hfr.mono fun _ _ e => .inr (.inl e)).trans (hfr2.mono fun _ _ e => .inl (.inl e))

/-! ### Flush -/
def Dv.flushE (D : Dv) : Int := if D.down = true then 120 else if D.plan = 1 then 120 else 0
def Dv.flush (D : Dv) : Dv := if D.down = true then D else if D.plan = 1 then D.tick else D.flushed.tick

theorem cf47 (w : World) : (callFunc 47 #[]).run Try.prog w = .ok (.enter 47 #[]) w := by kernel_rfl
theorem cf48 (a : Value) (w : World) : (callFunc 48 #[a]).run Try.prog w = .ok (.enter 48 #[a]) w := by kernel_rfl

theorem noop (w : World) : Calls Try.prog 47 #[] w fun e w' => e = .returned (.tuple #[]) ∧ w = w' := by
  go_enter Try.func47, Try.ntmps47
  go_wp2
  go_end0
  exact ⟨rfl, rfl⟩

abbrev box1 (w : World) (p : Nat) : World := w.alloc (.cells #[.pointer (some ⟨p, 0, none⟩)] 28)

set_option maxRecDepth 100000 in
set_option maxHeartbeats 400000 in
theorem flush_any (p : Nat) (vs vc : Value) (D : Dv) (w : World) (h : DevAt w p vs vc D) (hcalls : D.calls < 4611686018427387904) :
    Calls Try.prog 15 #[.pointer (some ⟨p, 0, none⟩)] w fun e w' => e = .returned (.int .i64 D.flushE) ∧ DevR w p vs vc D.flush w' := by
  have h1 := h.fr (Fr.alloc (S := fun _ => False) (Fr.refl _ w) (.cells #[.pointer (some ⟨p, 0, none⟩)] 28)) (fun _ _ e => e)
  have hfr0 : Fr (fun _ => False) w (w.alloc (.cells #[.pointer (some ⟨p, 0, none⟩)] 28)) := (Fr.refl _ w).alloc _
  have hu := up0 h.pos
  have H1 := Lib.hid h1
  have H := Lib.hid h
  by_cases hd : D.down = true
  · rw [if_pos hd] at hu
    have HU := Lib.hid hu
    have HD := Lib.hid hd
    clear hu hd h1 h
    go_enter Try.func15, Try.ntmps15
    go_wp2_with (go_at_call 44; refine (up_any p vs vc D _ H1.out 0).mono ?_; rintro e w' ⟨rfl, rfl⟩; rw [HU.out])
    go_ret
    refine ⟨by simp [Dv.flushE, HD.out], ?_⟩
    rw [Dv.flush, if_pos HD.out]
    exact .same H.out hfr0
  · rw [if_neg hd] at hu
    have HU := Lib.hid hu
    have HD := Lib.hid hd
    have f1 := Fr.one (w.alloc (.cells #[.pointer (some ⟨p, 0, none⟩)] 28)) p 4 (.int .i64 ((D.calls : Int) + 1))
    by_cases hpl : D.plan = 1
    · have hd1 := h1.put D.plan D.down (D.calls + 1) h.plan f1 (blk_set h1.blk rfl)
      have hb := h1.blk
      rw [hpl] at hb
      have HB := Lib.hid hb
      have HD1 := Lib.hid hd1
      have HP := Lib.hid hpl
      have HN := Lib.hid ((noop ((w.alloc (.cells #[.pointer (some ⟨p, 0, none⟩)] 28)).setCell ⟨p, 4, none⟩ (.int .i64 ((D.calls : Int) + 1)))).mono fun e w' he => And.intro he.1 (And.intro he.2 (show ∃ b0 b1 b2 b3 b4, w'.heap[p]? = some (.cells #[b0, b1, b2, b3, b4] 67 (0, 0)) from he.2 ▸ ⟨_, _, _, _, _, hd1.blk⟩)))
      clear hu hd h1 h hd1 hpl hb f1 hfr0
      go_enter Try.func15, Try.ntmps15
      go_wp2_with (first | (go_at_call 44; refine (up_any p vs vc D _ H1.out 0).mono ?_; rintro e w' ⟨rfl, rfl⟩; rw [HU.out]) | (go_at_call 46; refine (counted_down p vs vc D.down D.calls _ HB.out hcalls 47 _ cf47 _ (fun w2 => ((w.alloc (.cells #[.pointer (some ⟨p, 0, none⟩)] 28)).setCell ⟨p, 4, none⟩ (.int .i64 ((D.calls : Int) + 1))) = w2) HN.out).mono ?_; rintro e w' ⟨rfl, w0, rfl, rfl⟩))
      · go_ret
        refine ⟨by simp [Dv.flushE, HP.out], ?_⟩
        have f2 := Fr.setCell (p := ⟨p, 2, none⟩) (Fr.setCell (S := fun k => k = p) (p := ⟨p, 3, none⟩) (Fr.one (w.alloc (.cells #[.pointer (some ⟨p, 0, none⟩)] 28)) p 4 (.int .i64 ((D.calls : Int) + 1))) (.inl rfl) (.bool true)) (.inl rfl) (.int .i64 0)
        have h3 := H1.out.put 0 true (D.calls + 1) (by omega) f2 (blk_set (blk_set HD1.out.blk rfl) rfl)
        have e : D.flush = { D with plan := 0, down := true, calls := D.calls + 1 } := by simp [Dv.flush, Dv.tick, HP.out, HD.out]
        rw [e]
        exact ⟨vc, h3, ((Fr.refl _ w).alloc _).trans (f2.mono fun _ _ e => .inl (.inl e)), fun _ hk => .inl hk⟩
    · have f2 : Fr (fun k => k = p) (w.alloc (.cells #[.pointer (some ⟨p, 0, none⟩)] 28)) (((w.alloc (.cells #[.pointer (some ⟨p, 0, none⟩)] 28)).setCell ⟨p, 4, none⟩ (.int .i64 ((D.calls : Int) + 1))).setCell ⟨p, 2, none⟩ (.int .i64 ((D.plan - 1 : Nat) : Int))) :=
        Fr.setCell (p := ⟨p, 2, none⟩) f1 (.inl rfl) _
      have hpm := h.plan
      have hp := h.foot_lt (.inl rfl)
      have hd2 := h1.put (D.plan - 1) D.down (D.calls + 1) (by omega) f2 (blk_set (blk_set h1.blk rfl) rfl)
      have hfl := flush2 p vs vc { D with plan := D.plan - 1, calls := D.calls + 1 } _ hd2 w.heap.size ((f2.block _ (by simp) (by omega)).trans (heap_alloc_new w _)) (fun hf => by have := h.foot_lt hf; omega)
      have HFL : Hid (Calls Try.prog 48 #[.pointer (some ⟨w.heap.size, 0, none⟩)] (((w.alloc (.cells #[.pointer (some ⟨p, 0, none⟩)] 28)).setCell ⟨p, 4, none⟩ (.int .i64 ((D.calls : Int) + 1))).setCell ⟨p, 2, none⟩ (.int .i64 ((D.plan - 1 : Nat) : Int))) fun e w' => e = .returned (.tuple #[]) ∧ DevR w p vs vc D.flush w') := by
        refine hfl.mono ?_
        rintro e w' ⟨rfl, h3, h4⟩
        refine ⟨rfl, .slice none 0 0, ?_, (((Fr.refl _ w).alloc _).trans (f2.mono fun _ _ e => .inl (.inl e))).trans (h4.mono fun _ _ e => .inl e), fun k hk => by simp [Value.ownBlock] at hk⟩
        have e : D.flush = { D with plan := D.plan - 1, calls := D.calls + 1 : Dv }.flushed := by simp [Dv.flush, Dv.tick, Dv.flushed, hpl, hd]
        rw [e]
        exact h3
      have hb := h1.blk
      have HB := Lib.hid hb
      have HP := Lib.hid hpl
      clear hu hd h1 h hd2 hpl hb f1 f2 hfr0 hfl
      go_enter Try.func15, Try.ntmps15
      go_wp2_with (first | (go_at_call 44; refine (up_any p vs vc D _ H1.out 0).mono ?_; rintro e w' ⟨rfl, rfl⟩; rw [HU.out]) | (go_at_call 46; refine (counted_on p vs vc D.down D.plan D.calls _ HB.out hcalls HP.out hpm 48 _ (cf48 _) _ (DevR w p vs vc D.flush) HFL.out).mono ?_; rintro e w' ⟨rfl, hR⟩))
      go_ret
      exact ⟨by simp [Dv.flushE, HP.out, HD.out], hR⟩
end Go.Proofs.Ytbmankbbkemkcaa
