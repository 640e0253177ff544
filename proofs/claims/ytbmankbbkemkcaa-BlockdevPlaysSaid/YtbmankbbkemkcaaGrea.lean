/- Great, Bytes. -/
import Derived.Test.YtbmankbbkemkcaaOps
namespace Go.Proofs.Ytbmankbbkemkcaa
open Go.RowKit

def OpX.great (o : OpX) : Bool := decide (64 < o.x.c.keep.length) || decide (300 < o.x.len)
def greatE (L : List OpX) : Int := if 400 < L.length then 1 else if L.any OpX.great then 1 else 0

theorem greatE_zero {L : List OpX} (h : ¬ 0 < greatE L) : L.length ≤ 400 ∧ ∀ o ∈ L, o.x.c.keep.length ≤ 64 ∧ o.x.len ≤ 300 := by
  unfold greatE at h
  split at h
  · omega
  · split at h
    · omega
    · next h1 h2 =>
      refine ⟨by omega, fun o ho => ?_⟩
      have := List.any_eq_false.1 (by simpa using h2) o ho
      simp [OpX.great] at this
      exact this

theorem op_cells {w : World} {a : Addr} {o : OpX} (h : Seg w a o.cells) : w.cell? a = some (.int .i64 o.x.kind) ∧ w.cell? ⟨a.block, a.off + 1, none⟩ = some (.int .i64 o.x.n) ∧ w.cell? ⟨a.block, a.off + 2, none⟩ = some (.int .u8 (o.x.b.toNat : Int)) ∧ w.cell? ⟨a.block, a.off + 3, none⟩ = some (.int .i64 o.x.len) ∧
    w.cell? ⟨a.block, a.off + 4, none⟩ = some (.slice o.ak o.x.c.keep.length o.ck) ∧ w.cell? ⟨a.block, a.off + 5, none⟩ = some (.int .i64 o.x.c.torn) ∧ w.cell? ⟨a.block, a.off + 6, none⟩ = some (.int .i64 o.x.c.at_) :=
  ⟨h 0 _ rfl, h 1 _ rfl, h 2 _ rfl, h 3 _ rfl, h 4 _ rfl, h 5 _ rfl, h 6 _ rfl⟩

theorem greatE_one {L : List OpX} {k : Nat} {o : OpX} (h : L.length ≤ 400) (ho : L[k]? = some o) (hg : o.great = true) : greatE L = 1 := by
  unfold greatE
  rw [if_neg (by omega), if_pos (List.any_eq_true.2 ⟨o, List.mem_of_getElem? ho, hg⟩)]
theorem greatE_none {L : List OpX} (h : L.length ≤ 400) (hg : ∀ o ∈ L, o.great = false) : greatE L = 0 := by
  unfold greatE
  rw [if_neg (by omega), if_neg (by rw [List.any_eq_true]; rintro ⟨o, ho, h2⟩; rw [hg o ho] at h2; cases h2)]

set_option maxRecDepth 100000 in
set_option maxHeartbeats 400000 in
theorem great_any (w : World) (a : Option Addr) (n cap : Nat) (L : List OpX) (h : OpsIn w (.slice a n cap) L) : Calls Try.prog 11 #[.slice a n cap] w fun e w' => e = .returned (.int .i64 (greatE L)) ∧ w = w' := by
  have hn : n = L.length := by
    rcases h with ⟨e, rfl⟩ | ⟨ad, cp, e, _⟩
    · simp at e; simp [e]
    · simp at e; exact e.2.1
  obtain ⟨E, hE⟩ : ∃ E, greatE L = E := ⟨_, rfl⟩
  rw [hE]
  subst hn
  have HE := Lib.hid hE
  have HH := Lib.hid h
  clear h hE
  by_cases hbig : 400 < L.length
  · have hb : (400 : Int) < (L.length : Int) := by omega
    go_enter Try.func11, Try.ntmps11
    go_wp2
    go_ret
    exact ⟨by rw [← HE.out]; unfold greatE; rw [if_pos hbig]; rfl, rfl⟩
  · have hb : ¬ (400 : Int) < (L.length : Int) := by omega
    have hb4 : L.length ≤ 400 := by omega
    go_enter Try.func11, Try.ntmps11
    go_wp2
    go_loopw [9] (fun i wr => ∃ k : Nat, k ≤ L.length ∧ i = .int .i64 k ∧ w = wr ∧ ∀ o ∈ L.take k, o.great = false) (fun i _ => L.length - (intOf i).toNat)
    case atStart => exact ⟨0, Nat.zero_le _, rfl, rfl, by simp⟩
    case round =>
      obtain ⟨k, hk, rfl, rfl, hall⟩ := hrel
      rcases Nat.lt_or_ge k L.length with hlt | hge
      · obtain ⟨o, ho⟩ : ∃ o, L[k]? = some o := ⟨L[k], by simp⟩
        obtain ⟨ad, rfl, hsg⟩ : ∃ ad, a = some ad ∧ Seg w (ad.add (k * 7)) o.cells := by
          rcases HH.out with ⟨e, rfl⟩ | ⟨ad, cp, e, _, hx⟩
          · simp at ho
          · simp at e; exact ⟨ad, e.1, (hx k o ho).1⟩
        obtain ⟨c0, c1, c2, c3, c4, c5, c6⟩ := op_cells hsg
        have HA := Lib.hid hall
        have HO := Lib.hid ho
        clear hall ho hsg
        by_cases t1 : (64 : Int) < (o.x.c.keep.length : Int)
        · go_wp2
          go_ret
          exact ⟨by rw [← HE.out, greatE_one hb4 HO.out (by simp [OpX.great]; omega)]; rfl, rfl⟩
        · by_cases t2 : 300 < o.x.len
          · go_wp2
            go_ret
            exact ⟨by rw [← HE.out, greatE_one hb4 HO.out (by simp [OpX.great]; omega)]; rfl, rfl⟩
          · go_wp2
            go_roundw
            case rel => exact ⟨k + 1, by omega, by go_num, trivial, fun o' ho' => by
              rw [List.take_add_one, HO.out] at ho'
              rcases List.mem_append.1 ho' with h1 | h1
              · exact HA.out o' h1
              · simp at h1; subst h1; simp [OpX.great]; omega⟩
            case measure => simp [intOf]; omega
      · obtain rfl : k = L.length := by omega
        have HA := Lib.hid hall
        clear hall
        go_wp2
        go_ret
        exact ⟨by rw [← HE.out, greatE_none hb4 (by have := HA.out; rwa [List.take_length] at this)]; rfl, rfl⟩
end Go.Proofs.Ytbmankbbkemkcaa
