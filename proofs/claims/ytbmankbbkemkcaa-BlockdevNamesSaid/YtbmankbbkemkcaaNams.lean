/- BlockdevNames: the walk. -/
import Derived.Test.YtbmankbbkemkcaaNam
namespace Go.Proofs.Ytbmankbbkemkcaa
open Go.RowKit Go.Shelf

theorem gone_nil (w : World) : Gone w (.pointer none) := .inl rfl

set_option maxRecDepth 100000 in
set_option maxHeartbeats 4000000 in
theorem names_any (w : World) : Calls Try.prog 6 #[] w fun e w' => e = .returned (.bool true) ∧ Below w.heap.size w w' := by
  go_enter Try.func6, Try.ntmps6
  go_wp2_with (first
    | (go_at_call 12; (with_reducible refine (new4 w _ (Below.refl _ _)).mono ?_); rintro e w1 ⟨p, rfl, hD, -⟩; have HD := Lib.hid hD; clear hD)
    | (go_at_call 29; (with_reducible refine (full97 _).mono ?_); rintro e w2 ⟨g, rfl, hg, hge, hb⟩; have HD := Lib.hid (HD.out.below hb); have HR := Lib.hid hg; clear hg hb hge)
    | (go_at_call 29; (with_reducible refine (full98 _).mono ?_); rintro e w2 ⟨g, rfl, hg, hge, hb⟩; have HD := Lib.hid (HD.out.below hb); have HR := Lib.hid hg; clear hg hb hge)
    | (go_at_call 19; (with_reducible refine (nr1 HD.out).mono ?_); rintro e w3 ⟨rfl, hD, -⟩; have HD := Lib.hid hD; clear hD)
    | (go_at_call 13; (with_reducible first | refine (nw1 HD.out HR.out).mono ?_ | refine (nw2 HD.out HR.out).mono ?_ | refine (nw3 HD.out HR.out).mono ?_ | refine (nw4 HD.out HR.out).mono ?_ | refine (nw5 HD.out).mono ?_); rintro e w3 ⟨rfl, hD, -⟩; have HD := Lib.hid hD; clear hD)
    | (go_at_call 21; (with_reducible first | refine (np1 HD.out).mono ?_ | refine (np2 HD.out).mono ?_ | refine (np3 HD.out).mono ?_); rintro e w3 ⟨rfl, hD, -⟩; have HD := Lib.hid hD; clear hD)
    | (go_at_call 22; (with_reducible refine (nd3 HD.out).mono ?_); rintro e w3 ⟨rfl, rfl⟩)
    | (go_at_call 16; (with_reducible refine (nrd3 HD.out).mono ?_); rintro e w3 ⟨rfl, hD, -⟩; have HD := Lib.hid hD; clear hD)
    | (go_at_call 15; (with_reducible refine (nf3 HD.out).mono ?_); rintro e w3 ⟨rfl, hD, -⟩; have HD := Lib.hid hD; clear hD)
    | (go_at_call 19; (with_reducible refine (nr3 (HD.out.below (al1 _ _)) (heap_alloc_new _ _)).mono ?_); rintro e w6 ⟨rfl, hD, -⟩; have HD := Lib.hid hD; clear hD)
    | (go_at_call 30; (with_reducible refine (nrd4 HD.out HR.out).mono ?_); rintro e w7 ⟨rfl, hD, -⟩; have HD := Lib.hid hD; clear hD)
    | (go_at_call 20; (with_reducible refine (nc4 HD.out).mono ?_); rintro e w3 ⟨rfl, rfl⟩))
  go_loopw [135] (fun i wr => ∃ k : Nat, k ≤ 256 ∧ i = .int .i64 k ∧ DV w wr p (mk k)) (fun i _ => 256 - (intOf i).toNat)
  case atStart => exact ⟨0, by omega, rfl, by rw [← n4_mk]; exact HD.out⟩
  case round =>
    obtain ⟨k, hk, rfl, hdk⟩ := hrel
    rcases Nat.lt_or_ge k 256 with hlt | hge
    · have HD := Lib.hid hdk
      clear hdk
      go_wp2_with (first
        | (go_at_call 29; (with_reducible refine (full99 _).mono ?_); rintro e w2 ⟨g, rfl, hg, hge, hb⟩; have HD := Lib.hid (HD.out.below hb); have HR := Lib.hid hg; clear hg hb hge)
        | (go_at_call 13; (with_reducible refine (nwk k hlt HD.out HR.out).mono ?_); rintro e w3 ⟨rfl, hD, -⟩; have HD := Lib.hid hD; clear hD))
      go_roundw
      case rel => exact ⟨k + 1, by omega, by go_num, HD.out⟩
      case measure => simp [intOf]; omega
    · obtain rfl : k = 256 := by omega
      have HD := Lib.hid hdk
      clear hdk
      go_wp2_with (first
        | (go_at_call 29; (with_reducible refine (full100 _).mono ?_); rintro e w2 ⟨g, rfl, hg, hge, hb⟩; have HD := Lib.hid (HD.out.below hb); have HR := Lib.hid hg; clear hg hb hge)
        | (go_at_call 13; (with_reducible first | refine (nw6 HD.out HR.out).mono ?_ | refine (nw7 HD.out HR.out).mono ?_); rintro e w3 ⟨rfl, hD, -⟩; have HD := Lib.hid hD; clear hD)
        | (go_at_call 15; (with_reducible first | refine (nf4 HD.out).mono ?_ | refine (nf7 HD.out).mono ?_); rintro e w3 ⟨rfl, hD, -⟩; have HD := Lib.hid hD; clear hD)
        | (go_at_call 21; (with_reducible refine (np6 HD.out).mono ?_); rintro e w3 ⟨rfl, hD, -⟩; have HD := Lib.hid hD; clear hD)
        | (go_at_call 24; (with_reducible refine (ns8 HD.out).mono ?_); rintro e w4 ⟨gv, cv, rfl, hcell, hD⟩; have HD := Lib.hid hD; clear hD)
        | (go_at_call 12; (with_reducible refine (nb0 _).mono ?_); rintro e w3 ⟨rfl, rfl⟩)
        | (go_at_call 12; (with_reducible refine (nb1 _).mono ?_); rintro e w3 ⟨rfl, rfl⟩))
      have HZ : Hid (Gone (w4.alloc (.cells #[.slice none 0 0, .slice none 0 0, .int .i64 0, .bool false, .int .i64 0] 67)) (.pointer (some ⟨w4.heap.size, 0, none⟩))) := .inr ⟨_, _, _, _, rfl, heap_alloc_new _ _⟩
      have HS := Lib.hid ((HD.out.below (al1 _ (.cells #[.slice none 0 0, .slice none 0 0, .int .i64 0, .bool false, .int .i64 0] 67))).start)
      go_wp2_with (first
        | (go_at_call 16; (with_reducible refine (read_gone (.pointer none) _ (gone_nil _) 0).mono ?_); rintro e w5 ⟨rfl, hb⟩; have HZ := Lib.hid (HZ.out.below hb); have HS := Lib.hid (HS.out.trans (hb.mono HS.out.size)); clear hb)
        | (go_at_call 24; (with_reducible refine (safe_gone _ _ HZ.out 0).mono ?_); rintro e w5 ⟨rfl, rfl⟩)
        | (go_at_call 10; (with_reducible refine (alive_any _).mono ?_); rintro e w5 ⟨rfl, hb⟩; have HZ := Lib.hid (HZ.out.below hb); have HS := Lib.hid (HS.out.trans (hb.mono HS.out.size)); clear hb)
        | (go_at_call 13; (with_reducible refine (write_gone (.pointer none) _ (gone_nil _) 0 none 0 0).mono ?_); rintro e w5 ⟨rfl, hb⟩; have HZ := Lib.hid (HZ.out.below hb); have HS := Lib.hid (HS.out.trans (hb.mono HS.out.size)); clear hb)
        | (go_at_call 15; (with_reducible refine (flush_gone _ _ HZ.out).mono ?_); rintro e w5 ⟨rfl, hb⟩; have HZ := Lib.hid (HZ.out.below hb); have HS := Lib.hid (HS.out.trans (hb.mono HS.out.size)); clear hb)
        | (go_at_call 21; (with_reducible refine (plan_gone (.pointer none) _ (gone_nil _) 0).mono ?_); rintro e w5 ⟨rfl, rfl⟩)
        | (go_at_call 18; (with_reducible refine (pull_gone _ _ HZ.out).mono ?_); rintro e w5 ⟨rfl, rfl⟩)
        | (go_at_call 19; (with_reducible refine (restart_gone (.pointer none) _ (gone_nil _) none 0 0 0 0).mono ?_); rintro e w5 ⟨rfl, hb⟩; have HZ := Lib.hid (HZ.out.below hb); have HS := Lib.hid (HS.out.trans (hb.mono HS.out.size)); clear hb)
        | (go_at_call 22; (with_reducible refine (down_gone (.pointer none) _ (gone_nil _)).mono ?_); rintro e w5 ⟨rfl, rfl⟩)
        | (go_at_call 20; (with_reducible refine (calls_gone _ _ HZ.out).mono ?_); rintro e w5 ⟨rfl, rfl⟩)
        | (go_at_call 28; (with_reducible refine (len_gone (.pointer none) _ (gone_nil _)).mono ?_); rintro e w5 ⟨rfl, rfl⟩)
        | (go_at_call 23; (with_reducible refine (cached_gone _ _ HZ.out).mono ?_); rintro e w5 ⟨rfl, rfl⟩)
        | (go_at_call 17; (with_reducible refine (copy_gone (.pointer none) _ (gone_nil _)).mono ?_); rintro e w5 ⟨rfl, rfl⟩))
      go_ret
      exact ⟨rfl, HS.out⟩
end Go.Proofs.Ytbmankbbkemkcaa
