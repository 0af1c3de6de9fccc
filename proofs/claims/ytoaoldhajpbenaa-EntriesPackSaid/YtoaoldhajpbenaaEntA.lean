/- Small functions of package entries: what each call does. No statement is proved here. -/
import Derived.Test.YtoaoldhajpbenaaChecked
import Derived.Test.YtoaoldhajpbenaaBase
namespace Go.Proofs.Ytoaoldhajpbenaa
open Go.RowKit

def mayB (n : Int) : Bool := decide (0 ≤ n) && decide (n ≤ 1099511627776)
def maskB (n : Int) : Bool := decide (1 ≤ n) && decide (n ≤ 31)

set_option maxHeartbeats 400000 in
theorem may_any (n : Int) (w : World) :
    Calls Try.prog 81 #[.int .i64 n] w fun e w' => e = .returned (.bool (mayB n)) ∧ w = w' := by
  go_enter Try.func81, Try.ntmps81
  go_wp2
  all_goals go_ret
  · rename_i h; exact ⟨by simp [mayB, h], rfl⟩
  · rename_i h; exact ⟨by simp [mayB]; omega, rfl⟩

set_option maxHeartbeats 400000 in
theorem mask_any (n : Int) (w : World) :
    Calls Try.prog 82 #[.int .i64 n] w fun e w' => e = .returned (.bool (maskB n)) ∧ w = w' := by
  go_enter Try.func82, Try.ntmps82
  go_wp2
  all_goals go_ret
  · rename_i h; exact ⟨by simp [maskB, h], rfl⟩
  · rename_i h; exact ⟨by simp [maskB]; omega, rfl⟩

/-- An entry. -/
structure Ent where
  kind : Int
  term : Int
  cmd : List UInt8

def in64 (n : Int) : Prop := -9223372036854775808 ≤ n ∧ n ≤ 9223372036854775807

def rightB (e : Ent) : Bool :=
  decide (1 ≤ e.term) && mayB e.term && decide (e.cmd.length ≤ 4080) &&
    (decide (e.kind = 0) || decide (e.kind = 1) || (decide (e.kind = 2) && decide (e.cmd.length = 1) && maskB ((e.cmd.headD 0).toNat : Int)))

/-- The value of an entry. -/
def EntV (S : Nat → Prop) (w : World) (v : Value) (e : Ent) : Prop := ∃ b, v = .agg #[.int .i64 e.kind, .int .i64 e.term, b] ∧ Bytes S w b e.cmd

theorem box_below (w : World) (o : Obj) : Below w.heap.size w (w.alloc o) := (Below.refl _ _).alloc (Nat.le_refl _) _

set_option maxHeartbeats 1000000 in
theorem right_any (k t : Int) (v : Value) (xs : List UInt8) {S : Nat → Prop} (w : World) (hv : Bytes S w v xs) :
    Calls Try.prog 45 #[.agg #[.int .i64 k, .int .i64 t, v]] w fun e w' => e = .returned (.bool (rightB ⟨k, t, xs⟩)) ∧ Below w.heap.size w w' := by
  by_cases h2 : k = 2 ∧ xs.length = 1
  · obtain ⟨rfl, hl⟩ := h2
    obtain ⟨b, o, c, rfl, hn, hc, _, hb, hcell⟩ := hv.form (by omega)
    have h0 := hcell 0 _ (byteCells_get xs 0 (by omega))
    rw [Nat.add_zero] at h0
    obtain ⟨x, rfl⟩ : ∃ x, xs = [x] := List.length_eq_one_iff.1 hl
    simp only [List.length_singleton, List.getElem_cons_zero] at h0 hn ⊢
    clear hcell
    cases hm : mayB t <;> cases hk : maskB (x.toNat : Int)
    all_goals
      have hx := x.toNat_lt
      go_enter Try.func45, Try.ntmps45
      go_wp2_with (first | (go_at_call 81; refine (may_any _ _).mono ?_; rintro e w' ⟨rfl, rfl⟩) | (go_at_call 82; refine (mask_any _ _).mono ?_; rintro e w' ⟨rfl, rfl⟩))
      all_goals go_ret
      all_goals refine ⟨?_, box_below _ _⟩
      all_goals first | (simp [rightB, hm, hk]; done) | (simp [rightB, hm, hk]; omega)
  · obtain ⟨A, c, rfl⟩ := hv.slice
    have hle := hv.le
    unfold maxLen at hle
    cases hm : mayB t
    all_goals
      go_enter Try.func45, Try.ntmps45
      go_wp2_with (first | (go_at_call 81; refine (may_any _ _).mono ?_; rintro e w' ⟨rfl, rfl⟩) | (go_at_call 82; refine (mask_any _ _).mono ?_; rintro e w' ⟨rfl, rfl⟩))
      all_goals go_ret
      all_goals refine ⟨?_, box_below _ _⟩
      all_goals first | (simp [rightB, hm]; done) | (simp_all [rightB]; omega) | (simp_all [rightB]; done)
end Go.Proofs.Ytoaoldhajpbenaa
