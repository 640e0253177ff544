/- slices.Clone at bytes, sectors and writes. -/
import Derived.Test.YtbmankbbkemkcaaProg
import Derived.Test.YtbmankbbkemkcaaBase
namespace Go.Proofs.Ytbmankbbkemkcaa
open Go.RowKit

theorem info5 : (Try.prog.info? 5).map (fun i => (i.zero, i.size, i.bytes)) = some (some (.int .u8 0), 1, 1) := by kernel_rfl
def zw : Value := .agg (#[.int .i64 0] ++ Array.replicate 128 (.int .u8 0))
theorem zw_size : zw.cells.size = 129 := by kernel_rfl
theorem info85 : (Try.prog.info? 85).map (fun i => (i.zero, i.size, i.bytes)) = some (some zw, 129, 136) := by kernel_rfl
def zs : Value := .agg (Array.replicate 128 (.int .u8 0))
theorem zs_size : zs.cells.size = 128 := by kernel_rfl
theorem info83 : (Try.prog.info? 83).map (fun i => (i.zero, i.size, i.bytes)) = some (some zs, 128, 128) := by kernel_rfl

set_option maxRecDepth 100000 in
theorem clone_bytes (ad : Addr) (n cap : Nat) (xs : List Value) (w : World) (hl : xs.length = n * 1) (hb : ad.block < w.heap.size) (hs : Seg w ad xs) (h1 : ∀ u ∈ xs, u.oneCell' = true) (hn : n * 1 ≤ 140737488355328) :
    Calls Try.prog 50 #[.slice (some ad) n cap] w fun e w' => ∃ v', e = .returned v' ∧ w'.ownsRow w.heap.size 5 1 v' n xs ∧ Below w.heap.size w w' ∧ v' ≠ .slice none 0 0 := by
  obtain ⟨i0, hi, hz0, hz1, hz2⟩ := info_parts info5
  have hq : ∀ (a : Option Addr) (n c : Nat) (w : World), (binOp .eql 23 (.slice a n c) (.slice none 0 0)).run Try.prog w = .ok (.bool a.isNone) w := fun a n c w => Lib.run_eql_slice_nil w 23 5 a n c 0 0 Try.underlying23
  have HS := Lib.hid (hs.alloc hb (.cells #[] 5))
  have HL := Lib.hid hl
  have H1 := Lib.hid h1
  clear hs hl h1
  go_enter Try.func50, Try.ntmps50
  go_wp2_with (at_builtin; refine wpList_append_own _ rfl _ _ 23 rfl w.heap.size 5 i0 (.int .u8 0) 1 1 Try.underlying23 hi hz0 hz1 hz2 (by simp [Value.cells]) (by decide) _ 0 [] rfl (World.ownsRow_made w #[] 0 (Nat.le_refl _) (by unfold maxLen; omega) rfl) ad n cap xs rfl HL.out HS.out H1.out ?c3 ?c4 ?c5 ?_)
  case c3 => unfold maxLen; omega
  case c4 => omega
  case c5 => simp
  intro v' w' hown hgrow hnil
  have HN := Lib.hid hnil
  clear hnil
  have hbel : Below w.heap.size w w' := ((Below.refl _ _).alloc (Nat.le_refl _) _).grown hgrow (by simp) (fun k h => by simp [Value.ownBlock] at h; omega)
  go_wp2
  go_ret
  exact ⟨_, rfl, hown, hbel, HN.out⟩

theorem clone_bytes_nil (w : World) : Calls Try.prog 50 #[.slice none 0 0] w fun e w' => e = .returned (.slice none 0 0) ∧ w = w' := by
  have hq : ∀ (a : Option Addr) (n c : Nat) (w : World), (binOp .eql 23 (.slice a n c) (.slice none 0 0)).run Try.prog w = .ok (.bool a.isNone) w := fun a n c w => Lib.run_eql_slice_nil w 23 5 a n c 0 0 Try.underlying23
  go_enter Try.func50, Try.ntmps50
  go_wp2
  go_ret
  exact ⟨rfl, rfl⟩

set_option maxRecDepth 100000 in
theorem clone_sectors (ad : Addr) (n cap : Nat) (xs : List Value) (w : World) (hl : xs.length = n * 128) (hb : ad.block < w.heap.size) (hs : Seg w ad xs) (h1 : ∀ u ∈ xs, u.oneCell' = true) (hn : n * 128 ≤ 140737488355328) :
    Calls Try.prog 52 #[.slice (some ad) n cap] w fun e w' => ∃ v', e = .returned v' ∧ w'.ownsRow w.heap.size 83 128 v' n xs ∧ Below w.heap.size w w' ∧ v' ≠ .slice none 0 0 := by
  obtain ⟨i0, hi, hz0, hz1, hz2⟩ := info_parts info83
  have hq : ∀ (a : Option Addr) (n c : Nat) (w : World), (binOp .eql 64 (.slice a n c) (.slice none 0 0)).run Try.prog w = .ok (.bool a.isNone) w := fun a n c w => Lib.run_eql_slice_nil w 64 83 a n c 0 0 Try.underlying64
  have HS := Lib.hid (hs.alloc hb (.cells #[] 83))
  have HL := Lib.hid hl
  have H1 := Lib.hid h1
  clear hs hl h1
  go_enter Try.func52, Try.ntmps52
  go_wp2_with (at_builtin; refine wpList_append_own _ rfl _ _ 64 rfl w.heap.size 83 i0 zs 128 128 Try.underlying64 hi hz0 hz1 hz2 zs_size (by decide) _ 0 [] rfl (World.ownsRow_made w #[] 0 (Nat.le_refl _) (by unfold maxLen; omega) rfl) ad n cap xs rfl HL.out HS.out H1.out ?c3 ?c4 ?c5 ?_)
  case c3 => unfold maxLen; omega
  case c4 => omega
  case c5 => simp
  intro v' w' hown hgrow hnil
  have HN := Lib.hid hnil
  clear hnil
  have hbel : Below w.heap.size w w' := ((Below.refl _ _).alloc (Nat.le_refl _) _).grown hgrow (by simp) (fun k h => by simp [Value.ownBlock] at h; omega)
  go_wp2
  go_ret
  exact ⟨_, rfl, hown, hbel, HN.out⟩

theorem clone_sectors_nil (w : World) : Calls Try.prog 52 #[.slice none 0 0] w fun e w' => e = .returned (.slice none 0 0) ∧ w = w' := by
  have hq : ∀ (a : Option Addr) (n c : Nat) (w : World), (binOp .eql 64 (.slice a n c) (.slice none 0 0)).run Try.prog w = .ok (.bool a.isNone) w := fun a n c w => Lib.run_eql_slice_nil w 64 83 a n c 0 0 Try.underlying64
  go_enter Try.func52, Try.ntmps52
  go_wp2
  go_ret
  exact ⟨rfl, rfl⟩

set_option maxRecDepth 100000 in
theorem clone_writes (ad : Addr) (n cap : Nat) (xs : List Value) (w : World) (hl : xs.length = n * 129) (hb : ad.block < w.heap.size) (hs : Seg w ad xs) (h1 : ∀ u ∈ xs, u.oneCell' = true) (hn : n * 136 ≤ 140737488355328) :
    Calls Try.prog 53 #[.slice (some ad) n cap] w fun e w' => ∃ v', e = .returned v' ∧ w'.ownsRow w.heap.size 85 129 v' n xs ∧ Below w.heap.size w w' ∧ v' ≠ .slice none 0 0 := by
  obtain ⟨i0, hi, hz0, hz1, hz2⟩ := info_parts info85
  have hq : ∀ (a : Option Addr) (n c : Nat) (w : World), (binOp .eql 65 (.slice a n c) (.slice none 0 0)).run Try.prog w = .ok (.bool a.isNone) w := fun a n c w => Lib.run_eql_slice_nil w 65 85 a n c 0 0 Try.underlying65
  have HS := Lib.hid (hs.alloc hb (.cells #[] 85))
  have HL := Lib.hid hl
  have H1 := Lib.hid h1
  clear hs hl h1
  go_enter Try.func53, Try.ntmps53
  go_wp2_with (at_builtin; refine wpList_append_own _ rfl _ _ 65 rfl w.heap.size 85 i0 zw 129 136 Try.underlying65 hi hz0 hz1 hz2 zw_size (by decide) _ 0 [] rfl (World.ownsRow_made w #[] 0 (Nat.le_refl _) (by unfold maxLen; omega) rfl) ad n cap xs rfl HL.out HS.out H1.out ?c3 ?c4 ?c5 ?_)
  case c3 => unfold maxLen; omega
  case c4 => omega
  case c5 => simp
  intro v' w' hown hgrow hnil
  have HN := Lib.hid hnil
  clear hnil
  have hbel : Below w.heap.size w w' := ((Below.refl _ _).alloc (Nat.le_refl _) _).grown hgrow (by simp) (fun k h => by simp [Value.ownBlock] at h; omega)
  go_wp2
  go_ret
  exact ⟨_, rfl, hown, hbel, HN.out⟩

theorem clone_writes_nil (w : World) : Calls Try.prog 53 #[.slice none 0 0] w fun e w' => e = .returned (.slice none 0 0) ∧ w = w' := by
  have hq : ∀ (a : Option Addr) (n c : Nat) (w : World), (binOp .eql 65 (.slice a n c) (.slice none 0 0)).run Try.prog w = .ok (.bool a.isNone) w := fun a n c w => Lib.run_eql_slice_nil w 65 85 a n c 0 0 Try.underlying65
  go_enter Try.func53, Try.ntmps53
  go_wp2
  go_ret
  exact ⟨rfl, rfl⟩

end Go.Proofs.Ytbmankbbkemkcaa
