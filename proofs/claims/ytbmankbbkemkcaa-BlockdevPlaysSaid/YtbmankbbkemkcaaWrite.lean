/- counted and Write. -/
import Derived.Test.YtbmankbbkemkcaaPut
namespace Go.Proofs.Ytbmankbbkemkcaa
open Go.RowKit

/-- the count, and the plan -/
def Dv.tick (D : Dv) : Dv := if D.plan = 1 then { D with calls := D.calls + 1, down := true, plan := 0 } else { D with calls := D.calls + 1, plan := D.plan - 1 }

/-- 'counted', the device going down at it -/
theorem counted_down (p : Nat) (a0 a1 : Value) (dn : Bool) (calls : Nat) (w : World) (hb : w.heap[p]? = some (.cells #[a0, a1, .int .i64 1, .bool dn, .int .i64 (calls : Int)] 67 (0, 0))) (hcalls : calls < 4611686018427387904)
    (f : Nat) (ca : Array Value) (hcf : ∀ w, (callFunc f ca).run Try.prog w = .ok (.enter f ca) w) (fd : Value) (R : World → Prop)
    (ha : Calls Try.prog f ca (w.setCell ⟨p, 4, none⟩ (.int .i64 ((calls : Int) + 1))) fun e w' => e = .returned (.tuple #[]) ∧ R w' ∧ ∃ b0 b1 b2 b3 b4, w'.heap[p]? = some (.cells #[b0, b1, b2, b3, b4] 67 (0, 0))) :
    Calls Try.prog 46 #[.pointer (some ⟨p, 0, none⟩), .func (.func f) #[] ca, fd] w fun e w' => e = .returned (.int .i64 120) ∧ ∃ w0, R w0 ∧ w' = (w0.setCell ⟨p, 3, none⟩ (.bool true)).setCell ⟨p, 2, none⟩ (.int .i64 0) := by
  obtain ⟨hp, c0, c1, c2, c3, c4, f0, f1, f2, f3, f4⟩ := blk5 hb
  have HA := Lib.hid ha
  clear ha
  go_enter Try.func46, Try.ntmps46
  go_wp2_with fail
  refine HA.out.mono ?_
  rintro e w' ⟨rfl, hR, b0, b1, b2, b3, b4, hb'⟩
  obtain ⟨hp', c0', c1', c2', c3', c4', f0', f1', f2', f3', f4'⟩ := blk5 hb'
  go_wp2
  go_ret
  exact ⟨rfl, w', hR, rfl⟩

/-- 'counted', the device going on -/
theorem counted_on (p : Nat) (a0 a1 : Value) (dn : Bool) (plan calls : Nat) (w : World) (hb : w.heap[p]? = some (.cells #[a0, a1, .int .i64 (plan : Int), .bool dn, .int .i64 (calls : Int)] 67 (0, 0))) (hcalls : calls < 4611686018427387904)
    (hplan : plan ≠ 1) (hpl : plan ≤ 9223372036854775807)
    (f : Nat) (ca : Array Value) (hcf : ∀ w, (callFunc f ca).run Try.prog w = .ok (.enter f ca) w) (fa : Value) (R : World → Prop)
    (ha : Calls Try.prog f ca ((w.setCell ⟨p, 4, none⟩ (.int .i64 ((calls : Int) + 1))).setCell ⟨p, 2, none⟩ (.int .i64 ((plan - 1 : Nat) : Int))) fun e w' => e = .returned (.tuple #[]) ∧ R w') :
    Calls Try.prog 46 #[.pointer (some ⟨p, 0, none⟩), fa, .func (.func f) #[] ca] w fun e w' => e = .returned (.int .i64 0) ∧ R w' := by
  obtain ⟨hp, c0, c1, c2, c3, c4, f0, f1, f2, f3, f4⟩ := blk5 hb
  have HA : Hid (∀ m : Int, m = ((plan - 1 : Nat) : Int) → Calls Try.prog f ca ((w.setCell ⟨p, 4, none⟩ (.int .i64 ((calls : Int) + 1))).setCell ⟨p, 2, none⟩ (.int .i64 m)) fun e w' => e = .returned (.tuple #[]) ∧ R w') := by
    rintro m rfl; exact ha
  clear ha
  have hne : ((plan : Int) == 1) = false := beq_eq_false_iff_ne.2 (by omega)
  go_enter Try.func46, Try.ntmps46
  go_wp2_with fail
  all_goals
    refine (HA.out _ (by omega)).mono ?_
    rintro e w' ⟨rfl, hR⟩
    go_wp2
    go_ret
    exact ⟨rfl, hR⟩

/-- a slice that reads as bytes -/
def BytesV (w : World) (v : Value) (b : List UInt8) : Prop :=
  (∃ ad cap, v = .slice (some ad) b.length cap ∧ (b = [] ∨ ad.block < w.heap.size) ∧ Seg w ad (bys b)) ∨ (v = .slice none 0 0 ∧ b = [])

theorem BytesV.len {w : World} {v : Value} {b : List UInt8} (h : BytesV w v b) : ∃ ao cap, v = .slice ao b.length cap := by
  rcases h with ⟨ad, cap, rfl, _⟩ | ⟨rfl, rfl⟩
  · exact ⟨_, _, rfl⟩
  · exact ⟨_, _, rfl⟩

def Dv.writeE (D : Dv) (n : Int) (len : Nat) : Int := if D.up n ≠ 0 then D.up n else if len ≠ 128 then 2 else if 256 ≤ D.cache.length then 122 else if D.plan = 1 then 120 else 0
def Dv.write (D : Dv) (n : Int) (b : List UInt8) : Dv := if D.up n ≠ 0 ∨ b.length ≠ 128 ∨ 256 ≤ D.cache.length then D else { D with cache := D.cache ++ [(n.toNat, b)] }.tick

theorem cf45 (a b c : Value) (w : World) : (callFunc 45 #[a, b, c]).run Try.prog w = .ok (.enter 45 #[a, b, c]) w := by kernel_rfl

/-- the world behind the boxes of Write -/
abbrev wbox (w : World) (p : Nat) (n : Int) (vb : Value) : World := ((w.alloc (.cells #[.pointer (some ⟨p, 0, none⟩)] 28)).alloc (.cells #[.int .i64 n] 3)).alloc (.cells #[vb] 23)

theorem wbox_fr (S : Nat → Prop) (w : World) (p : Nat) (n : Int) (vb : Value) : Fr S w (wbox w p n vb) := (((Fr.refl S w).alloc _).alloc _).alloc _

set_option maxRecDepth 100000 in
set_option maxHeartbeats 400000 in
/-- the paths that do not count -/
theorem write_not (p : Nat) (vs vc : Value) (D : Dv) (w : World) (h : DevAt w p vs vc D) (n : Int) (vb : Value) (b : List UInt8) (hvb : BytesV w vb b) (hno : D.up n ≠ 0 ∨ b.length ≠ 128 ∨ 256 ≤ D.cache.length) :
    Calls Try.prog 13 #[.pointer (some ⟨p, 0, none⟩), .int .i64 n, vb] w fun e w' => e = .returned (.int .i64 (D.writeE n b.length)) ∧ w' = wbox w p n vb := by
  have h3 := h.fr (wbox_fr (fun _ => False) w p n vb) (fun _ _ e => e)
  obtain ⟨ao, cap, rfl⟩ := hvb.len
  obtain ⟨bo, bcap, hvc, _, _⟩ := h.cacheForm
  delta wbox at h3
  obtain ⟨hp, c0, c1, c2, c3, c4, f0, f1, f2, f3, f4⟩ := blk5 h3.blk
  rw [hvc] at c1
  clear hvc hvb
  have H3 := Lib.hid h3
  clear h3 h
  unfold Dv.writeE
  by_cases hu : D.up n ≠ 0
  · rw [if_pos hu]
    generalize hu' : D.up n = u at hu ⊢
    have hb1 : (u != 0) = true := by simpa using hu
    have HU := Lib.hid hu'
    clear hu'
    go_enter Try.func13, Try.ntmps13
    go_wp2_with (go_at_call 44; refine (up_any p vs vc D _ H3.out n).mono ?_; rintro e w' ⟨rfl, rfl⟩; rw [HU.out])
    go_ret
    exact ⟨rfl, rfl⟩
  · rw [if_neg hu]
    have hu0 : D.up n = 0 := by omega
    have HU := Lib.hid hu0
    have hno' : b.length ≠ 128 ∨ 256 ≤ D.cache.length := hno.resolve_left hu
    clear hu0 hu hno
    by_cases hl : b.length ≠ 128
    · rw [if_pos hl]
      have hb1 : ((b.length : Int) != 128) = true := by rw [bne_iff_ne]; omega
      clear hno'
      go_enter Try.func13, Try.ntmps13
      go_wp2_with (go_at_call 44; refine (up_any p vs vc D _ H3.out n).mono ?_; rintro e w' ⟨rfl, rfl⟩; rw [HU.out])
      go_ret
      exact ⟨rfl, rfl⟩
    · have hf := hno'.resolve_left hl
      rw [if_neg hl, if_pos hf]
      have hb1 : ((b.length : Int) != 128) = false := by rw [bne_eq_false_iff_eq]; omega
      clear hno' hl
      go_enter Try.func13, Try.ntmps13
      go_wp2_with (go_at_call 44; refine (up_any p vs vc D _ H3.out n).mono ?_; rintro e w' ⟨rfl, rfl⟩; rw [HU.out])
      go_ret
      exact ⟨rfl, rfl⟩

theorem wbox_blocks (w : World) (p : Nat) (n : Int) (vb : Value) :
    (wbox w p n vb).heap[w.heap.size]? = some (.cells #[.pointer (some ⟨p, 0, none⟩)] 28 (0, 0)) ∧ (wbox w p n vb).heap[w.heap.size + 1]? = some (.cells #[.int .i64 n] 3 (0, 0)) ∧
      (wbox w p n vb).heap[w.heap.size + 1 + 1]? = some (.cells #[vb] 23 (0, 0)) ∧ (wbox w p n vb).heap.size = w.heap.size + 3 := by
  refine ⟨?_, ?_, ?_, by simp⟩
  · refine (heap_alloc_old _ _ (by simp; omega)).trans ((heap_alloc_old _ _ (by simp)).trans (heap_alloc_new _ _))
  · refine (heap_alloc_old _ _ (by simp)).trans ?_
    have := heap_alloc_new (w.alloc (.cells #[.pointer (some ⟨p, 0, none⟩)] 28)) (.cells #[.int .i64 n] 3)
    rwa [World.size_alloc] at this
  · have := heap_alloc_new ((w.alloc (.cells #[.pointer (some ⟨p, 0, none⟩)] 28)).alloc (.cells #[.int .i64 n] 3)) (.cells #[vb] 23)
    rwa [World.size_alloc, World.size_alloc] at this

theorem put_in (p : Nat) (vs vc : Value) (D D' : Dv) (w w1 : World) (h : DevAt w p vs vc D) (n : Nat) (ad : Addr) (cap : Nat) (b : List UInt8) (had : ad.block < w.heap.size) (hb : Seg w ad (bys b)) (hl : b.length = 128) (hap : ad.block ≠ p)
    (hn : n < D.safe.length) (hfull : D.cache.length < 256) (hw1 : DevAt w1 p vs vc D') (hs : D'.safe = D.safe) (hc : D'.cache = D.cache)
    (hfr : Fr (fun k => k = p) (wbox w p n (.slice (some ad) 128 cap)) w1) :
    Calls Try.prog 45 #[.pointer (some ⟨w.heap.size, 0, none⟩), .pointer (some ⟨w.heap.size + 1, 0, none⟩), .pointer (some ⟨w.heap.size + 1 + 1, 0, none⟩)] w1 fun e w' => e = .returned (.tuple #[]) ∧
      ∃ g c, DevAt w' p vs (.slice (some ⟨g, 0, none⟩) (D.cache.length + 1) c) { D' with cache := D.cache ++ [(n, b)] } ∧ Fr (Foot p vs vc) w w' ∧ (vc.ownBlock = some g ∨ w.heap.size ≤ g) := by
  obtain ⟨b0, b1, b2, hsz⟩ := wbox_blocks w p n (.slice (some ad) 128 cap)
  have hp := h.foot_lt (.inl rfl)
  have hft : ∀ k, w.heap.size ≤ k → ¬ Foot p vs vc k := fun k hk hf => by have := h.foot_lt hf; omega
  refine (put_any p vs vc D' w1 hw1 _ _ _ n ad cap b ((hfr.block _ (by omega) (by omega)).trans b0) ((hfr.block _ (by omega) (by omega)).trans b1) ((hfr.block _ (by omega) (by omega)).trans b2) (hft _ (Nat.le_refl _))
    ((hb.of_block ((wbox_fr (fun _ => False) w p n _).block _ had (fun e => e))).of_block (hfr.block _ (by omega) hap)) hl (by rw [hs]; exact hn) (by rw [hc]; exact hfull)).mono ?_
  rintro e w' ⟨he, g, c, h1, h2, h3⟩
  rw [hc] at h1
  refine ⟨he, g, c, h1, ((wbox_fr _ w p n (.slice (some ad) 128 cap)).trans (hfr.mono fun k _ e => .inl (.inl e))).trans (h2.mono fun k _ e => .inl e), ?_⟩
  rcases h3 with h3 | h3
  · exact .inl h3
  · have := hfr.size; exact .inr (by omega)

/-- what the closure leaves -/
def PutR (w : World) (p : Nat) (vs vc : Value) (D' : Dv) (w' : World) : Prop :=
  ∃ g c, DevAt w' p vs (.slice (some ⟨g, 0, none⟩) D'.cache.length c) D' ∧ Fr (Foot p vs vc) w w' ∧ (vc.ownBlock = some g ∨ w.heap.size ≤ g)

theorem PutR.put {w : World} {p : Nat} {vs vc : Value} {D' : Dv} {w' : World} (h : PutR w p vs vc D' w') (plan : Nat) (down : Bool) (hp : plan ≤ 9223372036854775807) (w2 : World) (hw : w2 = (w'.setCell ⟨p, 3, none⟩ (.bool down)).setCell ⟨p, 2, none⟩ (.int .i64 (plan : Int))) :
    PutR w p vs vc { D' with plan := plan, down := down } w2 := by
  obtain ⟨g, c, h1, h2, h3⟩ := h
  have f1 : Fr (fun k => k = p) w' w2 := by rw [hw]; exact Fr.setCell (p := ⟨p, 2, none⟩) (Fr.one w' p 3 _) (.inl rfl) _
  have h4 := h1.put plan down D'.calls hp f1 (by rw [hw]; exact blk_set (blk_set h1.blk rfl) rfl)
  exact ⟨g, c, h4, h2.trans (f1.mono fun k _ e => .inl (.inl e)), h3⟩

set_option maxRecDepth 100000 in
set_option maxHeartbeats 400000 in
theorem write_counts (p : Nat) (vs vc : Value) (D : Dv) (w : World) (h : DevAt w p vs vc D) (n : Nat) (ad : Addr) (cap : Nat) (b : List UInt8) (had : ad.block < w.heap.size) (hb : Seg w ad (bys b)) (hl : b.length = 128) (hap : ad.block ≠ p)
    (hu : D.up n = 0) (hn : n < D.safe.length) (hfull : D.cache.length < 256) (hcalls : D.calls < 4611686018427387904) :
    Calls Try.prog 13 #[.pointer (some ⟨p, 0, none⟩), .int .i64 (n : Int), .slice (some ad) 128 cap] w fun e w' => e = .returned (.int .i64 (if D.plan = 1 then 120 else 0)) ∧
      PutR w p vs vc { D with cache := D.cache ++ [(n, b)] }.tick w' := by
  have h3 := h.fr (wbox_fr (fun _ => False) w p n (.slice (some ad) 128 cap)) (fun _ _ e => e)
  have hin := put_in p vs vc D
  obtain ⟨bo, bcap, hvc, _, _⟩ := h.cacheForm
  have hb1 : ((128 : Int) != 128) = false := rfl
  have hfd : decide ((256 : Int) ≤ (D.cache.length : Int)) = false := by simp; omega
  have hsh : ∀ (D' : Dv) (w' : World), D'.cache.length = D.cache.length + 1 → (∃ g c, DevAt w' p vs (.slice (some ⟨g, 0, none⟩) (D.cache.length + 1) c) D' ∧ Fr (Foot p vs vc) w w' ∧ (vc.ownBlock = some g ∨ w.heap.size ≤ g)) →
      PutR w p vs vc D' w' ∧ ∃ b0 b1 b2 b3 b4, w'.heap[p]? = some (.cells #[b0, b1, b2, b3, b4] 67 (0, 0)) := fun D' w' hl ⟨g, c, h1, h2, h3⟩ =>
    ⟨⟨g, c, by rw [hl]; exact h1, h2, h3⟩, _, _, _, _, _, h1.blk⟩
  have f1 := Fr.one (wbox w p n (.slice (some ad) 128 cap)) p 4 (.int .i64 ((D.calls : Int) + 1))
  have hd1 := h3.put D.plan D.down (D.calls + 1) h.plan f1 (blk_set h3.blk rfl)
  by_cases hpl : D.plan = 1
  · have HA := Lib.hid ((hin _ w _ h n ad cap b had hb hl hap hn hfull hd1 rfl rfl f1).mono fun e w' he => And.intro he.1 (hsh { D with cache := D.cache ++ [(n, b)], calls := D.calls + 1 } w' (by simp) he.2))
    have h3b := h3.blk
    rw [hpl] at h3b
    unfold wbox at h3 h3b
    obtain ⟨hp, c0, c1, c2, c3, c4, f0, f1, f2, f3, f4⟩ := blk5 h3b
    have H3B := Lib.hid h3b
    have HU := Lib.hid hu
    have H3 := Lib.hid h3
    have HP := Lib.hid hpl
    rw [hvc] at c1
    rw [if_pos hpl]
    clear h3b hu h3 hvc hpl hd1 hin hsh h hb hl f1
    go_enter Try.func13, Try.ntmps13
    go_wp2_with (first | (go_at_call 44; refine (up_any p vs vc D _ H3.out n).mono ?_; rintro e w' ⟨rfl, rfl⟩; rw [HU.out]) | (go_at_call 46; refine (counted_down p vs vc D.down D.calls _ H3B.out hcalls 45 _ (cf45 _ _ _) _ (PutR w p vs vc { D with cache := D.cache ++ [(n, b)], calls := D.calls + 1 }) HA.out).mono ?_; rintro e w' ⟨rfl, w0, hR, rfl⟩))
    go_ret
    refine ⟨rfl, ?_⟩
    have := hR.put 0 true (by omega) _ rfl
    simpa [Dv.tick, HP.out] using this
  · have f2 : Fr (fun k => k = p) (wbox w p n (.slice (some ad) 128 cap)) (((wbox w p n (.slice (some ad) 128 cap)).setCell ⟨p, 4, none⟩ (.int .i64 ((D.calls : Int) + 1))).setCell ⟨p, 2, none⟩ (.int .i64 ((D.plan - 1 : Nat) : Int))) :=
      Fr.setCell (p := ⟨p, 2, none⟩) f1 (.inl rfl) _
    have hd2 := h3.put (D.plan - 1) D.down (D.calls + 1) (by have := h.plan; omega) f2 (blk_set (blk_set h3.blk rfl) rfl)
    have HA := Lib.hid ((hin _ w _ h n ad cap b had hb hl hap hn hfull hd2 rfl rfl f2).mono fun e w' he => And.intro he.1 (hsh { D with cache := D.cache ++ [(n, b)], calls := D.calls + 1, plan := D.plan - 1 } w' (by simp) he.2).1)
    have h3b := h3.blk
    have hplm := h.plan
    unfold wbox at h3 h3b
    obtain ⟨hp, c0, c1, c2, c3, c4, f0, f1, f2, f3, f4⟩ := blk5 h3b
    have H3B := Lib.hid h3b
    have HU := Lib.hid hu
    have H3 := Lib.hid h3
    have HP := Lib.hid hpl
    rw [hvc] at c1
    rw [if_neg hpl]
    clear h3b hu h3 hvc hpl hd1 hd2 hin hsh h hb hl f1 f2
    go_enter Try.func13, Try.ntmps13
    go_wp2_with (first | (go_at_call 44; refine (up_any p vs vc D _ H3.out n).mono ?_; rintro e w' ⟨rfl, rfl⟩; rw [HU.out]) | (go_at_call 46; refine (counted_on p vs vc D.down D.plan D.calls _ H3B.out hcalls HP.out hplm 45 _ (cf45 _ _ _) _ (PutR w p vs vc { D with cache := D.cache ++ [(n, b)], calls := D.calls + 1, plan := D.plan - 1 }) HA.out).mono ?_; rintro e w' ⟨rfl, hR⟩))
    go_ret
    refine ⟨rfl, ?_⟩
    simpa [Dv.tick, HP.out] using hR

/-- what a call leaves of a device: the cache may lie in a new block -/
def DevR (w : World) (p : Nat) (vs vc : Value) (D' : Dv) (w' : World) : Prop :=
  ∃ vc', DevAt w' p vs vc' D' ∧ Fr (Foot p vs vc) w w' ∧ ∀ k, vc'.ownBlock = some k → vc.ownBlock = some k ∨ w.heap.size ≤ k

theorem PutR.devR {w : World} {p : Nat} {vs vc : Value} {D' : Dv} {w' : World} (h : PutR w p vs vc D' w') : DevR w p vs vc D' w' := by
  obtain ⟨g, c, h1, h2, h3⟩ := h
  refine ⟨_, h1, h2, fun k hk => ?_⟩
  simp only [Value.ownBlock, Option.some.injEq] at hk
  rw [← hk]; exact h3

theorem DevR.same {w : World} {p : Nat} {vs vc : Value} {D : Dv} {w' : World} (h : DevAt w p vs vc D) (hf : Fr (fun _ => False) w w') : DevR w p vs vc D w' :=
  ⟨vc, h.fr hf (fun _ _ e => e), hf.mono (fun _ _ e => e.elim), fun _ hk => .inl hk⟩

theorem DevR.foot {w : World} {p : Nat} {vs vc vc' : Value} (h : ∀ k, vc'.ownBlock = some k → vc.ownBlock = some k ∨ w.heap.size ≤ k) {k : Nat} (hk : Foot p vs vc' k) : Foot p vs vc k ∨ w.heap.size ≤ k := by
  rcases hk with hk | hk | hk
  · exact .inl (.inl hk)
  · exact .inl (.inr (.inl hk))
  · exact (h k hk).imp (fun e => .inr (.inr e)) id

theorem Dv.up_zero {D : Dv} {n : Int} (h : D.up n = 0) : D.down = false ∧ 0 ≤ n ∧ n < D.safe.length := by
  unfold Dv.up at h
  split at h
  · cases h
  · rename_i hd
    split at h
    · cases h
    · rename_i hn
      refine ⟨by simpa using hd, by omega, by omega⟩

/-- Write -/
theorem write_any (p : Nat) (vs vc : Value) (D : Dv) (w : World) (h : DevAt w p vs vc D) (n : Int) (vb : Value) (b : List UInt8) (hvb : BytesV w vb b) (hap : vb.ownBlock ≠ some p) (hcalls : D.calls < 4611686018427387904) :
    Calls Try.prog 13 #[.pointer (some ⟨p, 0, none⟩), .int .i64 n, vb] w fun e w' => e = .returned (.int .i64 (D.writeE n b.length)) ∧ DevR w p vs vc (D.write n b) w' := by
  by_cases hno : D.up n ≠ 0 ∨ b.length ≠ 128 ∨ 256 ≤ D.cache.length
  · refine (write_not p vs vc D w h n vb b hvb hno).mono ?_
    rintro e w' ⟨rfl, rfl⟩
    refine ⟨rfl, ?_⟩
    rw [Dv.write, if_pos hno]
    exact .same h (wbox_fr _ w p n vb)
  · have hu : D.up n = 0 := by omega
    have hl : b.length = 128 := by omega
    have hf : D.cache.length < 256 := by omega
    obtain ⟨hd, hn0, hnl⟩ := Dv.up_zero hu
    obtain ⟨m, rfl⟩ := Int.eq_ofNat_of_zero_le hn0
    rcases hvb with ⟨ad, cap, rfl, had, hseg⟩ | ⟨rfl, rfl⟩
    · replace had := had.resolve_left (fun e => by rw [e] at hl; simp at hl)
      have e1 : (Value.slice (some ad) b.length cap) = .slice (some ad) 128 cap := by rw [hl]
      rw [e1] at hap ⊢
      refine (write_counts p vs vc D w h m ad cap b had hseg hl (fun e => hap (by simp [Value.ownBlock, e])) hu (by omega) hf hcalls).mono ?_
      rintro e w' ⟨rfl, hR⟩
      refine ⟨?_, ?_⟩
      · simp [Dv.writeE, hu, hl, Nat.not_le.2 hf]
      · rw [Dv.write, if_neg hno]
        simpa using hR.devR
    · simp at hl

end Go.Proofs.Ytbmankbbkemkcaa
