/- The document's device: Read. -/
import Derived.Test.YtbmankbbkemkcaaRefb
import Derived.Test.YtbmankbbkemkcaaKmem
namespace Go.Proofs.Ytbmankbbkemkcaa
open Go.RowKit Go.Shelf Go.Maps

theorem rcells_get : ∀ (L : List (Nat × List UInt8)) (Vs : List Value) (k : Nat) (x : Nat × List UInt8) (v : Value), L[k]? = some x → Vs[k]? = some v → (rcells L Vs)[k * 2]? = some (.int .i64 (x.1 : Int)) ∧ (rcells L Vs)[k * 2 + 1]? = some v
  | [], _, _, _, _, h, _ => by cases h
  | _ :: _, [], _, _, _, _, h => by cases h
  | y :: L, u :: Vs, 0, x, v, h1, h2 => by
    simp at h1 h2
    subst h1 h2
    exact ⟨rfl, rfl⟩
  | y :: L, u :: Vs, k + 1, x, v, h1, h2 => by
    have := rcells_get L Vs k x v (by simpa using h1) (by simpa using h2)
    rw [show (k + 1) * 2 = k * 2 + 2 by omega]
    exact this

section
variable {w₀ w : World} {r mb n : Nat} {vc : Value} {Vs : List Value} {F : Nat → Option Value} {D : Dv}

theorem addk (g k : Nat) : (⟨g, 0, none⟩ : Addr).add k = ⟨g, k, none⟩ := by simp [Addr.add]; exact fun h => h.symm

theorem RefAt.cacheForm (h : RefAt w₀ w r mb n vc Vs F D) : ∃ ao cap, vc = .slice ao D.cache.length cap ∧ (∀ k x, D.cache[k]? = some x → ∃ g v, ao = some ⟨g, 0, none⟩ ∧ w.cell? ⟨g, k * 2, none⟩ = some (.int .i64 (x.1 : Int)) ∧ w.cell? ⟨g, k * 2 + 1, none⟩ = some v ∧ Held w₀ w v x.2) := by
  rcases h.cache.2 with ⟨e, e0⟩ | ⟨g, cap, cur, e, _⟩
  · refine ⟨none, 0, by rw [e, e0], fun k x hx => ?_⟩
    have := (List.getElem?_eq_some_iff.1 hx).1
    omega
  · refine ⟨_, cap, e, fun k x hx => ?_⟩
    have hk := (List.getElem?_eq_some_iff.1 hx).1
    obtain ⟨v, hv⟩ : ∃ v, Vs[k]? = some v := ⟨Vs[k]'(by rw [h.lens]; exact hk), by simp⟩
    obtain ⟨h1, h2⟩ := rcells_get _ _ _ _ _ hx hv
    refine ⟨g, v, rfl, ?_, ?_, h.held k x v hx hv⟩
    · rw [← addk]; exact h.cache.cells (g := g) (by rw [e]; rfl) _ _ h1
    · rw [← addk]; exact h.cache.cells (g := g) (by rw [e]; rfl) _ _ h2

theorem Held.bytes {v : Value} {b : List UInt8} (h : Held w₀ w v b) : BytesV w v b := by
  rcases h.1.2 with ⟨e, e0⟩ | ⟨g, cap, cur, e, _, hg, _⟩
  · omega
  · subst e
    exact .inl ⟨⟨g, 0, none⟩, cap, by rw [h.2], .inr (Array.getElem?_eq_some_iff.1 hg).1, fun j u hj => h.1.cells (g := g) rfl j u hj⟩
theorem Held.form {v : Value} {b : List UInt8} (h : Held w₀ w v b) : ∃ g cap, v = .slice (some ⟨g, 0, none⟩) 128 cap := by
  obtain ⟨g, cap, e, _⟩ := h.1.form (by omega)
  exact ⟨g, cap, e⟩

def rdTo (D : Dv) (i k : Nat) : List UInt8 := (((D.cache.take k).reverse.find? fun x => x.1 == i).map (·.2)).getD (D.safe.getD i [])
theorem rdTo_all (D : Dv) (i : Nat) : rdTo D i D.cache.length = D.read i := by unfold rdTo Dv.read; rw [List.take_length]
theorem rdTo_step (D : Dv) (i k : Nat) {x : Nat × List UInt8} (hx : D.cache[k]? = some x) : rdTo D i (k + 1) = if x.1 = i then x.2 else rdTo D i k := by
  unfold rdTo
  rw [List.take_add_one, hx]
  simp only [Option.toList_some, List.reverse_append, List.reverse_cons, List.reverse_nil, List.nil_append, List.singleton_append, List.find?_cons]
  by_cases e : x.1 = i
  · simp [e]
  · have : (x.1 == i) = false := by simp [e]
    rw [this]; simp [e]

set_option maxRecDepth 100000 in
set_option maxHeartbeats 1000000 in
theorem refRead_any (h : RefAt w₀ w r mb n vc Vs F D) (hdn : D.down = false) (hfull : D.cache.length ≤ 256) (i : Nat) (hi : i < D.safe.length) (hN : D.safe.length ≤ 65536) (hls : ∀ b ∈ D.safe, b.length = 128) : Calls Try.prog 59 #[.pointer (some ⟨r, 0, none⟩), .int .i64 (i : Int)] w fun e w' => ∃ g cap, e = .returned (.tuple #[.slice (some ⟨g, 0, none⟩) 128 cap, .int .i64 0]) ∧ BytesV w' (.slice (some ⟨g, 0, none⟩) 128 cap) (D.read i) ∧ Below w.heap.size w w' := by
  obtain ⟨hp, c0, c1, c2, c3, c4, c5, fz⟩ := blk6 h.blk
  rw [hdn] at c4
  obtain ⟨b, hb⟩ : ∃ b, D.safe[i]? = some b := ⟨D.safe[i], by simp [hi]⟩
  have hbl : b.length = 128 := hls b (List.mem_of_getElem? hb)
  have h0 : rdTo D i 0 = b := by simp [rdTo, List.getD, hb]
  have H := Lib.hid h
  have HB := Lib.hid hb
  have H0 := Lib.hid (And.intro h0 hbl)
  clear h hb h0 hbl
  go_enter Try.func59, Try.ntmps59
  go_wp2_with (first | (go_at_call 75; refine (place_in H.out (by omega) (by omega)).mono ?_; rintro e w1 ⟨rfl, rfl⟩) | (go_at_call 27; refine (at_any H.out i (by omega) b HB.out).mono ?_; rintro e w2 ⟨g, cap, rfl, hO, hbel⟩))
  have H2 := Lib.hid (H.out.ko (KO.of_below hbel))
  obtain ⟨ao, cc, rfl, hent⟩ := H2.out.cacheForm
  have HE := Lib.hid hent
  obtain ⟨hp', d0, d1, d2, d3, d4, d5, fz'⟩ := blk6 H2.out.blk
  have hv2 : BytesV w2 (.slice (some ⟨g, 0, none⟩) 128 cap) b := .of_own hO H0.out.2
  have HV2 := Lib.hid hv2
  have HBel := Lib.hid hbel
  clear hent hv2 hbel hO
  go_wp2
  go_loopw [7, 8] (fun v kv wr => ∃ k : Nat, k ≤ D.cache.length ∧ kv = .int .i64 k ∧ (∃ g cap, v = .slice (some ⟨g, 0, none⟩) 128 cap) ∧ BytesV w2 v (rdTo D i k) ∧ wr = w2) (fun _ kv _ => D.cache.length - (intOf kv).toNat)
  case atStart => exact ⟨0, Nat.zero_le _, rfl, ⟨g, cap, rfl⟩, by rw [H0.out.1]; exact HV2.out, rfl⟩
  case round =>
    obtain ⟨k, hk, rfl, ⟨g1, cap1, rfl⟩, hv, rfl⟩ := hrel
    rcases Nat.lt_or_ge k D.cache.length with hlt | hge
    · obtain ⟨x, hx⟩ : ∃ x, D.cache[k]? = some x := ⟨D.cache[k], by simp [hlt]⟩
      have hst := rdTo_step D i k hx
      obtain ⟨g2, v2, rfl, e1, e2, hh⟩ := HE.out k x hx
      obtain ⟨g3, cap3, rfl⟩ := hh.form
      have HV := Lib.hid hv
      have HH := Lib.hid hh.bytes
      have HS := Lib.hid hst
      clear hv hh hst hx
      by_cases hxi : x.1 = i
      · have t1 : ((x.1 : Int) == (i : Int)) = true := by simp [hxi]
        have HXI := Lib.hid hxi
        clear hxi
        go_wp2
        go_roundw
        case rel => exact ⟨k + 1, by omega, by go_num, ⟨g3, cap3, rfl⟩, by rw [HS.out, if_pos HXI.out]; exact HH.out, trivial⟩
        case measure => simp [intOf]; omega
      · have t1 : ((x.1 : Int) == (i : Int)) = false := beq_eq_false_iff_ne.2 (by omega)
        have HXI := Lib.hid hxi
        clear hxi
        go_wp2
        go_roundw
        case rel => exact ⟨k + 1, by omega, by go_num, ⟨g1, cap1, rfl⟩, by rw [HS.out, if_neg HXI.out]; exact HV.out, trivial⟩
        case measure => simp [intOf]; omega
    · have hkl : k = D.cache.length := by omega
      have HV := Lib.hid hv
      have HK := Lib.hid hkl
      clear hv hkl
      go_wp2
      go_ret2
      refine ⟨g1, cap1, rfl, ?_, HBel.out⟩
      rw [← rdTo_all, ← HK.out]
      exact HV.out

theorem up_cases {i : Int} : (D.down = true ∧ D.up i = 120) ∨ (D.down = false ∧ (i < 0 ∨ (D.safe.length : Int) ≤ i) ∧ D.up i = 121) ∨ (D.down = false ∧ 0 ≤ i ∧ i < D.safe.length ∧ D.up i = 0) := by
  unfold Dv.up
  cases D.down with
  | true => exact .inl ⟨rfl, if_pos rfl⟩
  | false =>
    by_cases h : i < 0 ∨ (D.safe.length : Int) ≤ i
    · exact .inr (.inl ⟨rfl, h, by rw [if_neg (by simp), if_pos h]⟩)
    · exact .inr (.inr ⟨rfl, by omega, by omega, by rw [if_neg (by simp), if_neg h]⟩)

theorem refRead_err (h : RefAt w₀ w r mb n vc Vs F D) {i x : Int} (hu : D.up i = x) (hx : x ≠ 0) : Calls Try.prog 59 #[.pointer (some ⟨r, 0, none⟩), .int .i64 i] w fun e w' => e = .returned (.tuple #[.slice none 0 0, .int .i64 x]) ∧ w = w' := by
  obtain ⟨hp, c0, c1, c2, c3, c4, c5, fz⟩ := blk6 h.blk
  subst hu
  have H := Lib.hid h
  clear h
  rcases up_cases (D := D) (i := i) with ⟨h1, h2⟩ | ⟨h1, h3, h2⟩ | ⟨_, _, _, h2⟩
  · rw [h1] at c4
    rw [h2]
    clear h2 hx h1
    go_enter Try.func59, Try.ntmps59
    go_wp2
    go_ret2
    exact ⟨rfl, rfl⟩
  · rw [h1] at c4
    rw [h2]
    have H3 := Lib.hid h3
    clear h2 hx h1 h3
    go_enter Try.func59, Try.ntmps59
    go_wp2_with (go_at_call 75; refine (place_out H.out H3.out).mono ?_; rintro e w1 ⟨rfl, rfl⟩)
    go_ret2
    exact ⟨rfl, rfl⟩
  · exact absurd h2 hx
end
end Go.Proofs.Ytbmankbbkemkcaa
