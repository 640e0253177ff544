/- Contracts of the device's short methods. -/
import Derived.Test.YtbmankbbkemkcaaProg
import Derived.Test.YtbmankbbkemkcaaBase
namespace Go.Proofs.Ytbmankbbkemkcaa
open Go.RowKit

/-- none: a device that is -/
theorem none_any (p : Nat) (vs vc : Value) (D : Dv) (w : World) (h : DevAt w p vs vc D) :
    Calls Try.prog 51 #[.pointer (some ⟨p, 0, none⟩)] w fun e w' => e = .returned (.bool false) ∧ w = w' := by
  obtain ⟨hp, c0, c1, c2, c3, c4, f0, f1, f2, f3, f4⟩ := blk5 h.blk
  obtain ⟨g, cap, rfl, hg⟩ := h.safeForm
  have hpos := h.pos
  have hne : ((D.safe.length : Int) == 0) = false := beq_eq_false_iff_ne.2 (by omega)
  go_enter Try.func51, Try.ntmps51
  go_wp2
  go_ret
  exact ⟨by simp, rfl⟩

/-- a device of nothing -/
theorem none_zero (p : Nat) (c2 c3 c4 : Value) (w : World) (h : w.heap[p]? = some (.cells #[.slice none 0 0, .slice none 0 0, c2, c3, c4] 67 (0, 0))) :
    Calls Try.prog 51 #[.pointer (some ⟨p, 0, none⟩)] w fun e w' => e = .returned (.bool true) ∧ w = w' := by
  obtain ⟨hp, c0, c1, c2, c3, c4, f0, f1, f2, f3, f4⟩ := blk5 h
  go_enter Try.func51, Try.ntmps51
  go_wp2
  go_ret
  exact ⟨rfl, rfl⟩

theorem none_nil (w : World) :
    Calls Try.prog 51 #[.pointer none] w fun e w' => e = .returned (.bool true) ∧ w = w' := by
  go_enter Try.func51, Try.ntmps51
  go_wp2
  go_ret
  exact ⟨rfl, rfl⟩

/-- there is none -/
def Gone (w : World) (v : Value) : Prop := v = .pointer none ∨ ∃ p c2 c3 c4, v = .pointer (some ⟨p, 0, none⟩) ∧ w.heap[p]? = some (.cells #[.slice none 0 0, .slice none 0 0, c2, c3, c4] 67 (0, 0))

theorem none_gone (v : Value) (w : World) (h : Gone w v) : Calls Try.prog 51 #[v] w fun e w' => e = .returned (.bool true) ∧ w = w' := by
  rcases h with rfl | ⟨p, c2, c3, c4, rfl, h⟩
  · exact none_nil w
  · exact none_zero p c2 c3 c4 w h

/-- what 'up' says -/
def Dv.up (D : Dv) (n : Int) : Int := if D.down = true then 120 else if n < 0 ∨ (D.safe.length : Int) ≤ n then 121 else 0

set_option maxHeartbeats 400000 in
theorem up_any (p : Nat) (vs vc : Value) (D : Dv) (w : World) (h : DevAt w p vs vc D) (n : Int) :
    Calls Try.prog 44 #[.pointer (some ⟨p, 0, none⟩), .int .i64 n] w fun e w' => e = .returned (.int .i64 (D.up n)) ∧ w = w' := by
  obtain ⟨hp, c0, c1, c2, c3, c4, f0, f1, f2, f3, f4⟩ := blk5 h.blk
  obtain ⟨g, cap, hs, hg⟩ := h.safeForm
  rw [hs] at c0
  clear hs
  have H := Lib.hid h
  clear h
  unfold Dv.up
  rcases hd : D.down with _ | _ <;> rw [hd] at c3 <;> clear hd
  · by_cases h1 : n < 0
    · go_enter Try.func44, Try.ntmps44
      go_wp2_with (go_at_call 51; refine (none_any p vs vc D _ H.out).mono ?_; rintro e w' ⟨rfl, rfl⟩)
      go_ret
      exact ⟨by simp, rfl⟩
    · by_cases h2 : (D.safe.length : Int) ≤ n
      · go_enter Try.func44, Try.ntmps44
        go_wp2_with (go_at_call 51; refine (none_any p vs vc D _ H.out).mono ?_; rintro e w' ⟨rfl, rfl⟩)
        go_ret
        exact ⟨by simp, rfl⟩
      · go_enter Try.func44, Try.ntmps44
        go_wp2_with (go_at_call 51; refine (none_any p vs vc D _ H.out).mono ?_; rintro e w' ⟨rfl, rfl⟩)
        go_ret
        exact ⟨by simp, rfl⟩
  · go_enter Try.func44, Try.ntmps44
    go_wp2_with (go_at_call 51; refine (none_any p vs vc D _ H.out).mono ?_; rintro e w' ⟨rfl, rfl⟩)
    go_ret
    exact ⟨by simp, rfl⟩

theorem up_gone (v : Value) (w : World) (h : Gone w v) (n : Int) : Calls Try.prog 44 #[v, .int .i64 n] w fun e w' => e = .returned (.int .i64 1) ∧ w = w' := by
  have H := Lib.hid h
  clear h
  go_enter Try.func44, Try.ntmps44
  go_wp2_with (go_at_call 51; refine (none_gone v _ H.out).mono ?_; rintro e w' ⟨rfl, rfl⟩)
  go_ret
  exact ⟨rfl, rfl⟩

/-! ### Len, Calls, Down -/
theorem len_any (p : Nat) (vs vc : Value) (D : Dv) (w : World) (h : DevAt w p vs vc D) :
    Calls Try.prog 28 #[.pointer (some ⟨p, 0, none⟩)] w fun e w' => e = .returned (.int .i64 (D.safe.length : Int)) ∧ w = w' := by
  obtain ⟨hp, c0, c1, c2, c3, c4, f0, f1, f2, f3, f4⟩ := blk5 h.blk
  obtain ⟨g, cap, hs, hg⟩ := h.safeForm
  rw [hs] at c0
  clear hs
  have H := Lib.hid h
  clear h
  go_enter Try.func28, Try.ntmps28
  go_wp2_with (go_at_call 51; refine (none_any p vs vc D _ H.out).mono ?_; rintro e w' ⟨rfl, rfl⟩)
  go_ret
  exact ⟨rfl, rfl⟩

theorem len_gone (v : Value) (w : World) (h : Gone w v) : Calls Try.prog 28 #[v] w fun e w' => e = .returned (.int .i64 0) ∧ w = w' := by
  have H := Lib.hid h
  clear h
  go_enter Try.func28, Try.ntmps28
  go_wp2_with (go_at_call 51; refine (none_gone v _ H.out).mono ?_; rintro e w' ⟨rfl, rfl⟩)
  go_ret
  exact ⟨rfl, rfl⟩

theorem calls_any (p : Nat) (vs vc : Value) (D : Dv) (w : World) (h : DevAt w p vs vc D) :
    Calls Try.prog 20 #[.pointer (some ⟨p, 0, none⟩)] w fun e w' => e = .returned (.int .i64 (D.calls : Int)) ∧ w = w' := by
  obtain ⟨hp, c0, c1, c2, c3, c4, f0, f1, f2, f3, f4⟩ := blk5 h.blk
  have H := Lib.hid h
  clear h
  go_enter Try.func20, Try.ntmps20
  go_wp2_with (go_at_call 51; refine (none_any p vs vc D _ H.out).mono ?_; rintro e w' ⟨rfl, rfl⟩)
  go_ret
  exact ⟨rfl, rfl⟩

theorem calls_gone (v : Value) (w : World) (h : Gone w v) : Calls Try.prog 20 #[v] w fun e w' => e = .returned (.int .i64 0) ∧ w = w' := by
  have H := Lib.hid h
  clear h
  go_enter Try.func20, Try.ntmps20
  go_wp2_with (go_at_call 51; refine (none_gone v _ H.out).mono ?_; rintro e w' ⟨rfl, rfl⟩)
  go_ret
  exact ⟨rfl, rfl⟩

theorem down_any (p : Nat) (vs vc : Value) (D : Dv) (w : World) (h : DevAt w p vs vc D) :
    Calls Try.prog 22 #[.pointer (some ⟨p, 0, none⟩)] w fun e w' => e = .returned (.bool D.down) ∧ w = w' := by
  obtain ⟨hp, c0, c1, c2, c3, c4, f0, f1, f2, f3, f4⟩ := blk5 h.blk
  have H := Lib.hid h
  clear h
  go_enter Try.func22, Try.ntmps22
  go_wp2_with (go_at_call 51; refine (none_any p vs vc D _ H.out).mono ?_; rintro e w' ⟨rfl, rfl⟩)
  go_ret
  exact ⟨rfl, rfl⟩

theorem down_gone (v : Value) (w : World) (h : Gone w v) : Calls Try.prog 22 #[v] w fun e w' => e = .returned (.bool false) ∧ w = w' := by
  have H := Lib.hid h
  clear h
  go_enter Try.func22, Try.ntmps22
  go_wp2_with (go_at_call 51; refine (none_gone v _ H.out).mono ?_; rintro e w' ⟨rfl, rfl⟩)
  go_ret
  exact ⟨rfl, rfl⟩

/-! ### Pull, Plan -/
theorem pull_any (p : Nat) (vs vc : Value) (D : Dv) (w : World) (h : DevAt w p vs vc D) :
    Calls Try.prog 18 #[.pointer (some ⟨p, 0, none⟩)] w fun e w' => e = .returned (.int .i64 0) ∧ DevAt w' p vs vc { D with down := true } ∧ Fr (fun k => k = p) w w' := by
  obtain ⟨hp, c0, c1, c2, c3, c4, f0, f1, f2, f3, f4⟩ := blk5 h.blk
  have hfr : Fr (fun k => k = p) w (w.setCell ⟨p, 3, none⟩ (.bool true)) := Fr.one w p _ _
  have hd := h.put D.plan true D.calls h.plan hfr (blk_set h.blk rfl)
  have H := Lib.hid h
  have HD := Lib.hid hd
  clear h hd
  go_enter Try.func18, Try.ntmps18
  go_wp2_with (go_at_call 51; refine (none_any p vs vc D _ H.out).mono ?_; rintro e w' ⟨rfl, rfl⟩)
  go_ret
  exact ⟨rfl, HD.out, hfr⟩

theorem pull_gone (v : Value) (w : World) (h : Gone w v) : Calls Try.prog 18 #[v] w fun e w' => e = .returned (.int .i64 1) ∧ w = w' := by
  have H := Lib.hid h
  clear h
  go_enter Try.func18, Try.ntmps18
  go_wp2_with (go_at_call 51; refine (none_gone v _ H.out).mono ?_; rintro e w' ⟨rfl, rfl⟩)
  go_ret
  exact ⟨rfl, rfl⟩

/-- what 'Plan' says, and does -/
def Dv.planE (D : Dv) (n : Int) : Int := if D.down = true then 120 else if n < 0 then 2 else 0
def Dv.setPlan (D : Dv) (n : Int) : Dv := if D.down = true then D else if n < 0 then D else { D with plan := n.toNat }

theorem up0 {D : Dv} (h : 0 < D.safe.length) : D.up 0 = if D.down = true then 120 else 0 := by
  unfold Dv.up; split
  · rfl
  · rw [if_neg (by omega)]

theorem plan_any (p : Nat) (vs vc : Value) (D : Dv) (w : World) (h : DevAt w p vs vc D) (n : Int) (hn : n ≤ 9223372036854775807) :
    Calls Try.prog 21 #[.pointer (some ⟨p, 0, none⟩), .int .i64 n] w fun e w' => e = .returned (.int .i64 (D.planE n)) ∧ DevAt w' p vs vc (D.setPlan n) ∧ Fr (fun k => k = p) w w' := by
  obtain ⟨hp, c0, c1, c2, c3, c4, f0, f1, f2, f3, f4⟩ := blk5 h.blk
  have hu := up0 h.pos
  by_cases hd : D.down = true
  · rw [if_pos hd] at hu
    have HU := Lib.hid hu
    have HD := Lib.hid hd
    have H := Lib.hid h
    clear hu hd h
    go_enter Try.func21, Try.ntmps21
    go_wp2_with (go_at_call 44; refine (up_any p vs vc D _ H.out 0).mono ?_; rintro e w' ⟨rfl, rfl⟩; rw [HU.out])
    go_ret
    exact ⟨by simp [Dv.planE, HD.out], by simpa [Dv.setPlan, HD.out] using H.out, Fr.refl _ _⟩
  · rw [if_neg hd] at hu
    have HU := Lib.hid hu
    have HD := Lib.hid hd
    have H := Lib.hid h
    clear hu hd h
    by_cases hn0 : n < 0
    · go_enter Try.func21, Try.ntmps21
      go_wp2_with (go_at_call 44; refine (up_any p vs vc D _ H.out 0).mono ?_; rintro e w' ⟨rfl, rfl⟩; rw [HU.out])
      go_ret
      exact ⟨by simp [Dv.planE, HD.out, hn0], by simpa [Dv.setPlan, HD.out, hn0] using H.out, Fr.refl _ _⟩
    · obtain ⟨m, rfl⟩ := Int.eq_ofNat_of_zero_le (show 0 ≤ n by omega)
      have hfr : Fr (fun k => k = p) w (w.setCell ⟨p, 2, none⟩ (.int .i64 (m : Int))) := Fr.one w p _ _
      have h1 := H.out.put m D.down D.calls (by omega) hfr (blk_set H.out.blk rfl)
      have H1 := Lib.hid h1
      clear h1
      go_enter Try.func21, Try.ntmps21
      go_wp2_with (go_at_call 44; refine (up_any p vs vc D _ H.out 0).mono ?_; rintro e w' ⟨rfl, rfl⟩; rw [HU.out])
      go_ret
      exact ⟨by simp [Dv.planE, HD.out], by unfold Dv.setPlan; rw [if_neg HD.out, if_neg (by omega)]; exact H1.out, hfr⟩

theorem plan_gone (v : Value) (w : World) (h : Gone w v) (n : Int) : Calls Try.prog 21 #[v, .int .i64 n] w fun e w' => e = .returned (.int .i64 1) ∧ w = w' := by
  have H := Lib.hid h
  clear h
  go_enter Try.func21, Try.ntmps21
  go_wp2_with (go_at_call 44; refine (up_gone v _ H.out 0).mono ?_; rintro e w' ⟨rfl, rfl⟩)
  go_ret
  exact ⟨rfl, rfl⟩

end Go.Proofs.Ytbmankbbkemkcaa
