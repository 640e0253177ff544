/- BlockdevPlays: the walk. -/
import Derived.Test.YtbmankbbkemkcaaDosa
import Derived.Test.YtbmankbbkemkcaaGrea
import Derived.BigQuiet
import Derived.Deep.CutRange
import Derived.Deep.DrawnRows
namespace Go.Proofs.Ytbmankbbkemkcaa
open Go.RowKit Go.Shelf Go.Maps
attribute [local go_sem ↓] Go.wp_at_zero Go.wp_at_succ

section
variable {w₀ w : World} {p q r mb N : Nat} {D E : Dv}

theorem do_any (h : Two w₀ w p q D E) (hr : RefE w₀ w r mb N D) (hcalls : D.calls < 4611686018427387904) (hN : N + 256 < maxLen) {o : OpX} (ho : OpB w₀ o) : Calls Try.prog 26 #[.pointer (some ⟨p, 0, none⟩), .pointer (some ⟨r, 0, none⟩), .agg o.cells.toArray] w fun e w' => e = .returned (.bool true) ∧ DoR w₀ w p q r mb N D E w' := by
  have hcl : o.cells.toArray = #[.int .i64 o.x.kind, .int .i64 o.x.n, .int .u8 (o.x.b.toNat : Int), .int .i64 o.x.len, .slice o.ak o.x.c.keep.length o.ck, .int .i64 o.x.c.torn, .int .i64 o.x.c.at_] := by simp [OpX.cells]
  by_cases h0 : o.x.kind = 0
  · exact do_write h hr hcalls ho h0
  rw [hcl]
  by_cases h1 : o.x.kind = 1
  · rw [h1]; exact do_flush h hr hcalls hN _ _ _ _ _ _
  by_cases h2 : o.x.kind = 2
  · rw [h2]; exact do_plan h hr _ ho.ok.i2 _ _ _ _ _
  by_cases h3 : o.x.kind = 3
  · rw [h3]; exact do_pull h hr _ _ _ _ _ _
  by_cases h4 : o.x.kind = 4
  · rw [h4]; exact do_restart h hr hN _ _ _ ho
  by_cases h5 : o.x.kind = 5
  · rw [h5]
    rcases up_cases (D := D) (i := o.x.n) with ⟨_, e⟩ | ⟨_, _, e⟩ | ⟨u1, u2, u3, _⟩
    · exact do_read_err h hr _ e (by decide) _ _ _ _ _
    · exact do_read_err h hr _ e (by decide) _ _ _ _ _
    · obtain ⟨k, hk⟩ : ∃ k : Nat, o.x.n = (k : Int) := ⟨o.x.n.toNat, by omega⟩
      rw [hk]
      exact do_read h hr k (by omega) u1 _ _ _ _ _
  exact do_none h hr _ ⟨h0, h1, h2, h3, h4, h5⟩ _ _ _ _ _ _

theorem do_row (h : Two w₀ w p q D E) (hr : RefE w₀ w r mb N D) (hcalls : D.calls < 4611686018427387904) (hN : N + 256 < maxLen) {o : OpX} (ho : OpB w₀ o) : Calls Try.prog 26 #[.pointer (some ⟨p, 0, none⟩), .pointer (some ⟨r, 0, none⟩), .agg #[.int .i64 o.x.kind, .int .i64 o.x.n, .int .u8 (o.x.b.toNat : Int), .int .i64 o.x.len, .slice o.ak o.x.c.keep.length o.ck, .int .i64 o.x.c.torn, .int .i64 o.x.c.at_]] w fun e w' => e = .returned (.bool true) ∧ DoR w₀ w p q r mb N D E w' := by
  have := do_any h hr hcalls hN ho
  have hcl : o.cells.toArray = #[.int .i64 o.x.kind, .int .i64 o.x.n, .int .u8 (o.x.b.toNat : Int), .int .i64 o.x.len, .slice o.ak o.x.c.keep.length o.ck, .int .i64 o.x.c.torn, .int .i64 o.x.c.at_] := by simp [OpX.cells]
  rwa [hcl] at this

theorem greatW (w : World) {a : Option Addr} {n cap : Nat} {L : List OpX} (h : OpsIn w (.slice a n cap) L) {x : Int} (hx : greatE L = x) : Calls Try.prog 11 #[.slice a n cap] w fun e w' => e = .returned (.int .i64 x) ∧ w = w' := by
  subst hx
  exact great_any w a n cap L h

theorem copyO (h : DV w₀ w p D) : Calls Try.prog 17 #[.pointer (some ⟨p, 0, none⟩)] w fun e w' => ∃ q, e = .returned (.pointer (some ⟨q, 0, none⟩)) ∧ Two w₀ w' p q D D ∧ KO w w' := by
  obtain ⟨vs, vc, h1, h2, h3⟩ := h
  refine (copy_any p vs vc D w h1).mono ?_
  rintro e w' ⟨q, us, uc, rfl, hd, hb, hf⟩
  exact ⟨q, rfl, ⟨vs, vc, us, uc, h1.fr (Fr.of_below hb (fun _ => False)) (fun _ _ e => e), hd, fun k hk hk' => by have := hf k hk'; have := h1.foot_lt hk; omega, h2, fun k hk => Nat.le_trans h3.size (hf k hk), h3.trans (hb.mono h3.size)⟩, .of_below hb⟩

set_option maxRecDepth 100000 in
set_option maxHeartbeats 6000000 in
theorem plays_walk (w : World) (s : Int) (a1 : Option Addr) (l1 k1 : Nat) (L1 : List OpX) (h1 : OpsIn w (.slice a1 l1 k1) L1) :
    Calls Try.prog 5 #[.int .i64 s, .slice a1 l1 k1] w fun e w' => e = .returned (.bool true) ∧ Below w.heap.size w w' := by
  obtain ⟨E1, hE1⟩ : ∃ E, greatE L1 = E := ⟨_, rfl⟩
  have HE1 := Lib.hid hE1
  have H1 := Lib.hid h1
  clear hE1 h1
  by_cases t1 : 0 < E1
  · go_enter Try.func5, Try.ntmps5
    go_wp2_with (go_at_call 11; (with_reducible refine (greatW w H1.out HE1.out).mono ?_); rintro e w2 ⟨rfl, rfl⟩)
    go_ret
    exact ⟨rfl, Below.refl _ _⟩
  by_cases hs : 1 ≤ s ∧ s ≤ 65536
  · obtain ⟨m, rfl⟩ : ∃ m : Nat, s = (m : Int) := ⟨s.toNat, by omega⟩
    go_enter Try.func5, Try.ntmps5
    go_wp2_with (first
      | (go_at_call 11; (with_reducible refine (greatW w H1.out HE1.out).mono ?_); rintro e w2 ⟨rfl, rfl⟩)
      | (go_at_call 12; (with_reducible refine (newR w w (Below.refl _ _) m (by omega) (by omega)).mono ?_); rintro e w3 ⟨p, rfl, hD, -⟩; have HD := Lib.hid hD; clear hD)
      | (go_at_call 25; (with_reducible refine (refNew_any w w3 HD.out.start.size m (by omega) (by omega)).mono ?_); rintro e w4 ⟨r, mb, rfl, hR, hb⟩; have HD := Lib.hid (HD.out.below hb); have HR := Lib.hid hR; clear hR hb)
      | (go_at_call 17; (with_reducible refine (copyO HD.out).mono ?_); rintro e w5 ⟨q, rfl, hT, hko⟩; have HT := Lib.hid hT; have HR := Lib.hid (HR.out.ko hko); clear hT hko))
    have hl1 : l1 = L1.length := by
      rcases H1.out with ⟨e, rfl⟩ | ⟨ad, cp, e, _⟩
      · simp at e; simp [e]
      · simp at e; exact e.2.1
    have HL1 := Lib.hid hl1
    have HG1 := Lib.hid (greatE_zero (L := L1) (by rw [HE1.out]; omega))
    have hl4 : l1 ≤ 400 := by rw [hl1]; exact HG1.out.1
    clear hl1
    go_loopw [42] (fun i wr => ∃ k : Nat, k ≤ l1 ∧ i = .int .i64 k ∧ ∃ D, Two w wr p q D (Dv.new m) ∧ RefE w wr r mb (256 * k) D ∧ D.calls ≤ k ∧ D.safe.length = m) (fun i _ => l1 - (intOf i).toNat)
    case atStart => exact ⟨0, Nat.zero_le _, rfl, _, HT.out, ⟨0, _, _, _, Nat.le_refl _, HR.out⟩, Nat.le_refl _, by simp [Dv.new]⟩
    case round =>
      obtain ⟨k, hk, rfl, D, hT, hR, hcl, hsl⟩ := hrel
      rcases Nat.lt_or_ge k l1 with hlt | hge
      · obtain ⟨o, ho⟩ : ∃ o, L1[k]? = some o := ⟨L1[k]'(by rw [← HL1.out]; exact hlt), by simp⟩
        obtain ⟨ad, hseg, hok, rfl⟩ : ∃ ad, Seg w (ad.add (k * 7)) o.cells ∧ o.Ok w ∧ a1 = some ad := by
          rcases H1.out with ⟨e, rfl⟩ | ⟨ad, cp, e, _, h2⟩
          · simp at ho
          · simp at e; exact ⟨ad, (h2 k o ho).1, (h2 k o ho).2, e.1⟩
        have hob : OpB w o := ⟨hok, (HG1.out.2 o (List.mem_of_getElem? ho)).1, (HG1.out.2 o (List.mem_of_getElem? ho)).2⟩
        obtain ⟨c0, c1, c2, c3, c4, c5, c6⟩ := op_cells (hseg.of_block (w' := wr) (hT.start.block _ (cell_lt (hseg 0 _ rfl))))
        have HT := Lib.hid hT
        have HR := Lib.hid hR
        have HO := Lib.hid hob
        clear hT hR ho hseg hok hob
        go_wp2_with fail
        have hbx : Below wr.heap.size wr (wr.alloc (.cells #[.int .i64 o.x.kind, .int .i64 o.x.n, .int .u8 (o.x.b.toNat : Int), .int .i64 o.x.len, .slice o.ak o.x.c.keep.length o.ck, .int .i64 o.x.c.torn, .int .i64 o.x.c.at_] 34)) := (Below.refl _ wr).alloc (Nat.le_refl _) _
        have hBX : (wr.alloc (.cells #[.int .i64 o.x.kind, .int .i64 o.x.n, .int .u8 (o.x.b.toNat : Int), .int .i64 o.x.len, .slice o.ak o.x.c.keep.length o.ck, .int .i64 o.x.c.torn, .int .i64 o.x.c.at_] 34)).heap[wr.heap.size]? = some (.cells #[.int .i64 o.x.kind, .int .i64 o.x.n, .int .u8 (o.x.b.toNat : Int), .int .i64 o.x.len, .slice o.ak o.x.c.keep.length o.ck, .int .i64 o.x.c.torn, .int .i64 o.x.c.at_] 34 (0, 0)) := Array.getElem?_push_size
        have hT1 := HT.out.below hbx
        have hR1 : RefE w (wr.alloc (.cells #[.int .i64 o.x.kind, .int .i64 o.x.n, .int .u8 (o.x.b.toNat : Int), .int .i64 o.x.len, .slice o.ak o.x.c.keep.length o.ck, .int .i64 o.x.c.torn, .int .i64 o.x.c.at_] 34)) r mb (256 * k) D := by
          obtain ⟨n', vc', Vs', F', hn', hR'⟩ := HR.out
          exact ⟨n', vc', Vs', F', hn', hR'.ko (.of_below hbx)⟩
        generalize hbw : wr.alloc (.cells #[.int .i64 o.x.kind, .int .i64 o.x.n, .int .u8 (o.x.b.toNat : Int), .int .i64 o.x.len, .slice o.ak o.x.c.keep.length o.ck, .int .i64 o.x.c.torn, .int .i64 o.x.c.at_] 34) = wb at hbx hBX hT1 hR1 ⊢
        obtain ⟨bx, hbxe⟩ : ∃ bx, bx = wr.heap.size := ⟨_, rfl⟩
        rw [← hbxe] at hBX
        rw [← hbxe]
        obtain ⟨z0, z1, z2, z3, z4, z5, z6⟩ := blk7 hBX
        have HT : Hid (Two w wb.drew p q D (Dv.new m)) := hT1.below ((Below.refl _ _).drew)
        have HR : Hid (RefE w wb.drew r mb (256 * k) D) := by
          obtain ⟨n', vc', Vs', F', hn', hR'⟩ := hR1
          exact ⟨n', vc', Vs', F', hn', hR'.ko (.of_below ((Below.refl _ _).drew))⟩
        have HBX : Hid (wb.drew.heap[bx]? = some (.cells #[.int .i64 o.x.kind, .int .i64 o.x.n, .int .u8 (o.x.b.toNat : Int), .int .i64 o.x.len, .slice o.ak o.x.c.keep.length o.ck, .int .i64 o.x.c.torn, .int .i64 o.x.c.at_] 34 (0, 0))) := hBX
        have hcl : #[.int .i64 o.x.kind, .int .i64 o.x.n, .int .u8 (o.x.b.toNat : Int), .int .i64 o.x.len, .slice o.ak o.x.c.keep.length o.ck, .int .i64 o.x.c.torn, .int .i64 o.x.c.at_] = o.cells.toArray := by simp [OpX.cells]
        have HQ : Hid (D.calls < 4611686018427387904 ∧ 256 * k + 256 < maxLen) := ⟨by omega, by unfold maxLen; omega⟩
        clear hbx hBX hT1 hR1 hbw hbxe c0 c1 c2 c3 c4 c5 c6 hcl
        go_cut [42, 71] from 42 to 131 (fun i g wx => i = .int .i64 k ∧ g = .bool false ∧ ∃ D', Two w wx p q D' (Dv.new m) ∧ RefE w wx r mb (256 * (k + 1)) D' ∧ D'.calls ≤ k + 1 ∧ D'.safe.length = m ∧ wx.heap[bx]? = some (.cells #[.int .i64 o.x.kind, .int .i64 o.x.n, .int .u8 (o.x.b.toNat : Int), .int .i64 o.x.len, .slice o.ak o.x.c.keep.length o.ck, .int .i64 o.x.c.torn, .int .i64 o.x.c.at_] 34 (0, 0)))
        case first =>
          go_region_with (first
            | (go_at_call 26; (with_reducible refine (do_row HT.out HR.out HQ.out.1 HQ.out.2 HO.out).mono ?_); rintro e w7 ⟨rfl, D', hT, hR, hc, hl, hkx⟩; have HBX := Lib.hid (hkx _ _ _ _ HBX.out (by decide) (by decide) (by decide) (by decide) (by decide)); have HT := Lib.hid hT; have HR7 := Lib.hid (And.intro hR (And.intro hc hl)); obtain ⟨n7, vc7, Vs7, F7, _, hR7⟩ := hR; obtain ⟨_, _, _, _, _, y4, y5, _⟩ := blk6 hR7.blk; clear hT hc hl hkx hR7)
            | (go_at_call 22; (with_reducible refine (downR HT.out.left rfl).mono ?_); rintro e w8 ⟨rfl, rfl⟩)
            | (go_at_call 20; (with_reducible refine (callsR HT.out.left rfl).mono ?_); rintro e w9 ⟨rfl, rfl⟩))
          all_goals
            go_wp2_with fail
            go_meet
            (next => exact ⟨rfl, rfl, D', HT.out, HR7.out.1, by have := HR7.out.2.1; omega, by rw [HR7.out.2.2]; exact hsl, HBX.out⟩)
        case rest =>
          obtain ⟨rfl, rfl, D', hT, hR, hc, hl, hbx⟩ := hcut
          have HT := Lib.hid hT
          have HBX := Lib.hid hbx
          obtain ⟨n7, vc7, Vs7, F7, hn7, hR7⟩ := hR
          have HR := Lib.hid hR7
          clear hT hbx hR7
          go_wp2_with (go_at_call 23; (with_reducible refine (cachedO HT.out).mono ?_); rintro e w10 ⟨ca, cc, rfl, hce, hT, hb⟩; have HT := Lib.hid hT; have HR := Lib.hid (HR.out.ko (.of_below hb)); have HBX := Lib.hid ((KO.of_below hb).cells HBX.out); have HCE := Lib.hid hce; obtain ⟨a7, c7, hvc7, hent7⟩ := HR.out.cacheForm; obtain ⟨_, _, _, y2, _⟩ := blk6 HR.out.blk; rw [hvc7] at y2; clear hT hb hce)
          have HE7 := Lib.hid hent7
          clear hent7 hvc7
          go_loopw [84] (fun jv wr => ∃ y : Nat, y ≤ D'.cache.length ∧ jv = .int .i64 y ∧ Below w10.heap.size w10 wr) (fun jv _ => D'.cache.length - (intOf jv).toNat)
          case atStart => exact ⟨0, Nat.zero_le _, rfl, Below.refl _ _⟩
          case round =>
            obtain ⟨y, hy, rfl, hB⟩ := hrel
            have hf8 := HT.out.wf.2.2.2.2.1
            rcases Nat.lt_or_ge y D'.cache.length with hyl | hyg
            · obtain ⟨x, hx⟩ : ∃ x, D'.cache[y]? = some x := ⟨D'.cache[y], by simp [hyl]⟩
              obtain ⟨gc, rfl, e1⟩ := HCE.out y x hx
              obtain ⟨g2, v2, rfl, e2, _, _⟩ := HE7.out y x hx
              have f1 := (Below.cell (p := ⟨gc, y, none⟩) hB (cell_lt e1)).trans e1
              have f2 := (Below.cell (p := ⟨g2, y * 2, none⟩) hB (cell_lt e2)).trans e2
              have f3 := (Below.cell (p := ⟨r, 2, none⟩) hB (cell_lt y2)).trans y2
              have hy0 : (0 : Int) ≤ (y : Int) := Int.natCast_nonneg _
              have hy1 : (y : Int) < (D'.cache.length : Int) := by omega
              have HB := Lib.hid hB
              clear hB hx
              go_wp2
              go_quiet (fail)
              go_wp2
              go_roundw
              case rel => exact ⟨y + 1, by omega, by go_num, HB.out.trans ⟨rfl, rfl, rfl, Nat.le_refl _, fun _ _ => rfl⟩⟩
              case measure => simp [intOf]; omega
            · have HB := Lib.hid hB
              clear hB
              obtain ⟨_, b1, _⟩ := blk7 ((KO.of_below HB.out).cells HBX.out)
              have HFIN : Hid (∀ X, Below w10.heap.size w10 X → ∃ D, Two w X p q D (Dv.new m) ∧ RefE w X r mb (256 * (k + 1)) D ∧ D.calls ≤ k + 1 ∧ D.safe.length = m) := fun X hX => ⟨D', HT.out.below hX, ⟨n7, vc7, Vs7, F7, hn7, HR.out.ko (.of_below hX)⟩, hc, hl⟩
              by_cases hrg : 0 ≤ o.x.n ∧ o.x.n < (m : Int)
              · obtain ⟨i, hi⟩ : ∃ i : Nat, o.x.n = (i : Int) := ⟨o.x.n.toNat, by omega⟩
                obtain ⟨b, hbb⟩ : ∃ b, D'.safe[i]? = some b := ⟨D'.safe[i]'(by omega), by simp⟩
                have hbl : b.length = 128 := HT.out.wf.1 b (List.mem_of_getElem? hbb)
                have HBB := Lib.hid (And.intro hbb (And.intro hbl (show i < 65536 by omega)))
                rw [hi] at b1
                have g1 : ¬ (i : Int) < 0 := by omega
                have g2 : ¬ (m : Int) ≤ (i : Int) := by omega
                have HHI := Lib.hid hi
                clear hbb hbl hrg hi
                go_wp2_with (go_at_call 24; (with_reducible refine (safeO (HT.out.below HB.out) HBB.out.1).mono ?_); rintro e w11 ⟨ao, cap, rfl, hv, -, hb⟩; have HV := Lib.hid hv; have HB := Lib.hid (HB.out.trans (hb.mono HB.out.size)); obtain ⟨_, b2, _⟩ := blk7 ((KO.of_below HB.out).cells HBX.out); rw [HHI.out] at b2; have cv1 : (convert 23 9 (.slice ao b.length cap)).run Try.prog w11.drew = .ok (.string ⟨b.toArray⟩) w11.drew := conv_bytes (hv.fr ((Fr.refl (fun _ => False) w11).drew) (fun _ _ _ _ e => e)); clear hv hb)
                go_region_with (go_at_call 27; (with_reducible refine (at_any (HR.out.ko (.of_below HB.out.drew)) i HBB.out.2.2 b HBB.out.1).mono ?_); rintro e w12 ⟨gg, cp, rfl, hO, hb⟩; have cv2 := conv_bytes (BytesV.of_own hO HBB.out.2.1); have cv3 : (convert 23 9 (.slice ao b.length cap)).run Try.prog w12 = .ok (.string ⟨b.toArray⟩) w12 := conv_bytes (HV.out.fr (Fr.of_below ((((Below.refl _ w11).drew).trans hb)) (fun _ => False)) (fun _ _ _ _ e => e)); have HB12 := Lib.hid (HB.out.drew.trans (hb.mono HB.out.drew.size)); clear hO hb)
                all_goals
                  go_wp2
                  go_roundw
                  (next => exact ⟨k + 1, by omega, by go_num, HFIN.out _ HB12.out⟩)
                  (next => simp [intOf]; omega)
              · have hbad : o.x.n < 0 ∨ (D'.safe.length : Int) ≤ o.x.n := by omega
                have HBAD := Lib.hid hbad
                by_cases hneg : o.x.n < 0
                · clear hrg hbad
                  go_wp2_with (go_at_call 24; (with_reducible refine (safeBadO (HT.out.below HB.out) HBAD.out).mono ?_); rintro e w11 ⟨rfl, rfl⟩)
                  go_roundw
                  case rel => exact ⟨k + 1, by omega, by go_num, HFIN.out _ HB.out⟩
                  case measure => simp [intOf]; omega
                · have hge2 : (m : Int) ≤ o.x.n := by omega
                  clear hrg hbad
                  go_wp2_with (go_at_call 24; (with_reducible refine (safeBadO (HT.out.below HB.out) HBAD.out).mono ?_); rintro e w11 ⟨rfl, rfl⟩)
                  go_roundw
                  case rel => exact ⟨k + 1, by omega, by go_num, HFIN.out _ HB.out⟩
                  case measure => simp [intOf]; omega
      · have HT := Lib.hid hT
        clear hT hR
        go_wp2_with (first
          | (go_at_call 28; (with_reducible refine (lenR HT.out.left hsl).mono ?_); rintro e w8 ⟨rfl, rfl⟩)
          | (go_at_call 20; (with_reducible refine (callsR HT.out.right (r := 0) rfl).mono ?_); rintro e w8 ⟨rfl, rfl⟩)
          | (go_at_call 22; (with_reducible refine (downR HT.out.right (r := false) rfl).mono ?_); rintro e w8 ⟨rfl, rfl⟩)
          | (go_at_call 23; (with_reducible refine (cachedO HT.out.symm).mono ?_); rintro e w9 ⟨ca, cc, rfl, -, hT, -⟩; have HT := Lib.hid hT; clear hT))
        go_ret
        exact ⟨rfl, HT.out.start⟩
  · have hs2 : s < 1 ∨ 65536 < s := by omega
    go_enter Try.func5, Try.ntmps5
    go_wp2_with (first
      | (go_at_call 11; (with_reducible refine (greatW w H1.out HE1.out).mono ?_); rintro e w2 ⟨rfl, rfl⟩)
      | (go_at_call 12; (with_reducible refine (new_bad s w hs2).mono ?_); rintro e w3 ⟨rfl, rfl⟩)
      | (go_at_call 25; (with_reducible refine (refNew_bad w s hs2).mono ?_); rintro e w4 ⟨rfl, rfl⟩))
    go_ret
    exact ⟨rfl, Below.refl _ _⟩
end
end Go.Proofs.Ytbmankbbkemkcaa
