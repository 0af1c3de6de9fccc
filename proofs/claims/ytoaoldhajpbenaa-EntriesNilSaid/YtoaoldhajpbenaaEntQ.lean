/- What there is not: the calls on a nil log. No statement is proved here. -/
import Derived.Test.YtoaoldhajpbenaaEntU
namespace Go.Proofs.Ytoaoldhajpbenaa
open Go.RowKit Go.Shelf
attribute [local go_sem] Oper.semAt_some

theorem runs1_nil_in (n : Nat) (l Bg : Nat) (J : List (Int × Int) → World → Prop) (W : World) (hBg : W.cell? ⟨Bg, 0, none⟩ = some (.pointer none)) (h0 : J [] W) :
    CallsIn Fence.wide n Try.prog 83 #[.func (.yield l) #[] #[], .pointer (some ⟨Bg, 0, none⟩)] W fun e W' => (∃ v, e = .returned v) ∧ J [] W' := by
  refine callsIn_of_wp Try.func83 rfl trivial ?_ rfl
  simp only [Try.ntmps83, List.size_toArray, List.length_cons, List.length_nil, Nat.reduceAdd, Nat.reduceSub, Array.replicate_succ, Array.replicate_zero, List.push_toArray, List.append_toArray, List.nil_append, List.cons_append]
  gi_wp2
  refine bodyPost_ret (results_none rfl _ _ _) rfl ?_
  exact ⟨⟨_, rfl⟩, h0⟩

theorem runs_nil_stops (n : Nat) (Bg n₀ : Nat) (w : World) (hBg : Bg < w.heap.size) (hc : w.cell? ⟨Bg, 0, none⟩ = some (.pointer none)) :
    SeqStopsK Fence.wide n Try.prog 83 #[.pointer (some ⟨Bg, 0, none⟩)] (fun x : Int × Int => #[Value.int .i64 x.1, .int .i64 x.2]) (Below n₀) (fun ys => ys = []) (fun _ => True) 0 w := fun l J Jx W hW hJ _ hY h0 => by
  refine (runs1_nil_in n l Bg J W ((hW.cell (p := ⟨Bg, 0, none⟩) hBg).trans hc) h0).mono ?_
  rintro e W' ⟨h1, h2⟩
  exact ⟨h1, .inl ⟨_, rfl, h2⟩⟩

set_option maxRecDepth 100000 in
set_option maxHeartbeats 2000000 in
theorem lawRuns_nil_in (n : Nat) (hn : 3 ≤ n) (w : World) :
    CallsIn Fence.wide n Try.prog 13 #[.pointer none] w fun e W' => e = .returned (.slice none 0 0) ∧ Below w.heap.size w W' := by
  have h1 : 1 ≤ n := by omega
  have hfR : Fence.wide.fn 41 := trivial
  refine callsIn_of_wp_marks Try.func13 rfl trivial ?_ rfl
  simp only [Try.ntmps13, List.size_toArray, List.length_cons, List.length_nil, Nat.reduceAdd, Nat.reduceSub, Array.replicate_succ, Array.replicate_zero, List.push_toArray, List.append_toArray, List.nil_append, List.cons_append]
  gi_wp2_with (gi_at_call 41; refine (runs_in (n - 1) _ _).mono ?_; rintro e w' ⟨rfl, rfl⟩)
  have bO := Boxed.new w 26 (.slice none 0 0)
  have bN := Boxed.new (w.alloc (.cells #[.slice none 0 0] 26)) 23 (.pointer none)
  rw [World.size_alloc] at bN
  have hB0 : Below w.heap.size w ((w.alloc (.cells #[.slice none 0 0] 26)).alloc (.cells #[.pointer none] 23)) := ((Below.refl _ w).alloc (Nat.le_refl _) _).alloc (by simp) _
  refine wpIn_rangeFunc_ownG rfl h1 (gf := 83) (lb := #[.pointer (some ⟨w.heap.size + 1, 0, none⟩)]) rfl trivial (enters_of Try.func83 (by kernel_rfl) rfl)
    (runs_nil_stops (n - 1) (w.heap.size + 1) w.heap.size _ (by simp) bN.cell) belowK_t (belowK_b (by simp; omega)) (Below.refl _ _) (fun _ => rfl)
    (fun pre W => (∃ v, Boxed W w.heap.size 26 v ∧ W.ownsRow w.heap.size 29 2 v pre.length (runCells pre) ∧ v = .slice none 0 0) ∧ Below w.heap.size w W)
    (fun _ _ _ => False)
    (OwnFrom.and (Own.from (holdsRow_own w.heap.size w.heap.size 26 29 2 (fun pre => pre.length) (fun pre => runCells pre) (fun _ v => v = .slice none 0 0)) _) (ownFrom_below (Nat.le_refl _) (by simp; omega)))
    (fun _ _ _ _ _ hs _ _ => hs)
    ⟨⟨_, bO.alloc _, World.ownsRow_nil _ _ _ _, rfl⟩, hB0⟩
    (fun x => { tmps := #[.pointer none, undef, .slice none 0 0, .pointer (some ⟨w.heap.size, 0, none⟩), .func (.func 83) #[] #[.pointer (some ⟨w.heap.size + 1, 0, none⟩)], .int .i64 x.1, .int .i64 x.2, .pointer none, .func (.func 83) #[] #[.pointer (some ⟨w.heap.size + 1, 0, none⟩)], .func (.func 83) #[] #[.pointer (some ⟨w.heap.size + 1, 0, none⟩)], .bool false, .func (.func 83) #[] #[.pointer (some ⟨w.heap.size + 1, 0, none⟩)], .int .i64 x.1, .int .i64 x.2, undef, undef, undef, undef, undef, undef, undef], defers := [] }) ?assign ?body ?done ?stop
  case assign =>
    intro l x W K hK
    gi_wp2
    exact hK
  case body =>
    rintro l pre x W - hlt
    exact absurd hlt (Nat.not_lt_zero _)
  case done =>
    rintro D ys W hD rfl ⟨⟨v, hv, hrow, rfl⟩, hB⟩ hK
    have hc := hv.cell
    gi_wp2
    refine ⟨by simp, .inl ⟨_, _, rfl, run_takeDeferred hK, ?_⟩⟩
    refine ⟨_, results_tmp rfl _ _ _, rfl, hB.trans (belowK_b (w := w) (Nat.le_refl _) W D _ _ (by simp at hD; omega) hK rfl rfl)⟩
  case stop =>
    rintro D c pre W _ _ h _
    exact h.elim

section
attribute [local go_sem ↓] Go.wp_at_zero Go.wp_at_succ
theorem find_nil (n : Int) (w : World) : Calls Try.prog 42 #[.pointer none, .int .i64 n] w fun e w' => e = .returned (.tuple #[.nilIface, .int .i64 0]) ∧ w = w' := by
  go_enter Try.func42, Try.ntmps42
  go_wp2_with fail
  go_ret2
  exact ⟨rfl, rfl⟩
theorem term_nil (n : Int) (w : World) : Calls Try.prog 14 #[.pointer none, .int .i64 n] w fun e w' => e = .returned (.int .i64 (-1)) ∧ w = w' := by
  go_enter Try.func14, Try.ntmps14
  go_wp2_with (go_at_call 42; refine (find_nil _ _).mono ?_; rintro _ w1 ⟨rfl, rfl⟩)
  go_ret
  exact ⟨rfl, rfl⟩
theorem at_nil (n : Int) (w : World) : Calls Try.prog 23 #[.pointer none, .int .i64 n] w fun e w' => e = .returned (.tuple #[.agg #[.int .i64 0, .int .i64 0, .slice none 0 0], .bool false]) ∧ Below w.heap.size w w' := by
  go_enter Try.func23, Try.ntmps23
  go_wp2_with (go_at_call 42; refine (find_nil _ _).mono ?_; rintro _ w1 ⟨rfl, rfl⟩)
  obtain ⟨k0, k1, k2, -⟩ := cells3 (blk_alloc (blk_new w (.cells #[.int .i64 0, .int .i64 0, .slice none 0 0] 33)) (.cells #[.int .i64 0, .slice none 0 0] 92))
  refine bodyPost_ret (v := .tuple #[.agg #[.int .i64 0, .int .i64 0, .slice none 0 0], .bool false]) (by simp [results, Try.results23, go_sem, k0, k1, k2]) rfl ⟨rfl, below_two _ _ _⟩
theorem members_nil (n : Int) (w : World) : Calls Try.prog 21 #[.pointer none, .int .i64 n] w fun e w' => e = .returned (.int .i64 0) ∧ w = w' := by
  go_enter Try.func21, Try.ntmps21
  go_wp2_with (go_at_call 42; refine (find_nil _ _).mono ?_; rintro _ w1 ⟨rfl, rfl⟩)
  go_ret
  exact ⟨rfl, rfl⟩
theorem change_nil (w : World) : Calls Try.prog 25 #[.pointer none] w fun e w' => e = .returned (.int .i64 0) ∧ w = w' := by
  go_enter Try.func25, Try.ntmps25
  go_wp2_with fail
  go_ret
  exact ⟨rfl, rfl⟩
theorem over_nil (n : Int) (w : World) : Calls Try.prog 20 #[.pointer none, .int .i64 n] w fun e w' => e = .returned (.tuple #[.pointer none, .int .i64 2]) ∧ w = w' := by
  go_enter Try.func20, Try.ntmps20
  go_wp2_with fail
  go_ret2
  exact ⟨rfl, rfl⟩
theorem slice_nil (n m : Int) (w : World) : Calls Try.prog 16 #[.pointer none, .int .i64 n, .int .i64 m] w fun e w' => e = .returned (.slice none 0 0) ∧ Below w.heap.size w w' := by
  go_enter Try.func16, Try.ntmps16
  go_wp2_with (go_at_call 42; refine (find_nil _ _).mono ?_; rintro _ w1 ⟨rfl, rfl⟩)
  go_ret
  exact ⟨rfl, by first | exact Below.refl _ _ | exact box_below _ _⟩
set_option maxHeartbeats 1000000 in
theorem join_nil (n t : Int) (lv : Value) (w : World) : Calls Try.prog 17 #[.pointer none, .int .i64 n, .int .i64 t, lv] w fun e w' => e = .returned (.agg #[.pointer none, .bool false, .int .i64 0, .int .i64 0, .int .i64 0]) ∧ Below w.heap.size w w' := by
  obtain ⟨k0, k1, k2, k3, k4, f0, f1, f2, f3, f4⟩ := cells5 (blk_new w (.cells #[.pointer none, .bool false, .int .i64 0, .int .i64 0, .int .i64 0] 40))
  go_enter Try.func17, Try.ntmps17
  go_wp2_with fail
  refine bodyPost_ret (v := .agg #[.pointer none, .bool false, .int .i64 0, .int .i64 0, .int .i64 0]) (by simp [results, Try.results17, go_sem, k0, k1, k2, k3, k4]) rfl ⟨rfl, ?_⟩
  first | exact below_five (box_below w _) _ _ _ _ _ | exact box_below w _

set_option maxRecDepth 100000 in
set_option maxHeartbeats 2000000 in
theorem entriesNil_any (n : Int) (A : Option Addr) (ln c : Nat) (w : World) :
    Calls Try.prog 7 #[.int .i64 n, .slice A ln c] w fun e w' => e = .returned (.bool true) ∧ Below w.heap.size w w' := by
  have HR := Lib.hid fun W => callsIn_wide.1 (lawRuns_nil_in 3 (by decide) W)
  go_enter Try.func7, Try.ntmps7
  go_wp2_with (first
    | (go_at_call 22; refine (floor_nil _).mono ?_; rintro _ w1 ⟨rfl, rfl⟩)
    | (go_at_call 19; refine (top_nil _).mono ?_; rintro _ w1 ⟨rfl, rfl⟩)
    | (go_at_call 23; refine (at_nil _ _).mono ?_; rintro _ wA ⟨rfl, hbA⟩)
    | (go_at_call 15; refine (with_nil _ _).mono ?_; rintro _ w1 ⟨rfl, rfl⟩)
    | (go_at_call 24; refine (upto_nil _ _).mono ?_; rintro _ w1 ⟨rfl, rfl⟩)
    | (go_at_call 20; refine (over_nil _ _).mono ?_; rintro _ w1 ⟨rfl, rfl⟩)
    | (go_at_call 17; refine (join_nil _ _ _ _).mono ?_; rintro _ wJ ⟨rfl, hbJ⟩)
    | (go_at_call 14; refine (term_nil _ _).mono ?_; rintro _ w1 ⟨rfl, rfl⟩)
    | (go_at_call 21; refine (members_nil _ _).mono ?_; rintro _ w1 ⟨rfl, rfl⟩)
    | (go_at_call 25; refine (change_nil _).mono ?_; rintro _ w1 ⟨rfl, rfl⟩)
    | (go_at_call 16; refine (slice_nil _ _ _).mono ?_; rintro _ wS ⟨rfl, hbS⟩; obtain ⟨z0, z1, z2, z3, z4, -⟩ := cells5 (blk_keep hbS (blk_keep hbR (blk_new wJ (.cells #[.pointer none, .bool false, .int .i64 0, .int .i64 0, .int .i64 0] 40)))))
    | (go_at_call 13; refine (HR.out _).mono ?_; rintro _ wR ⟨rfl, hbR⟩)
    | (go_at_call 12; refine (known_any _).mono ?_; rintro _ wK ⟨rfl, hbK⟩))
  go_ret
  exact ⟨rfl, below_then (below_then (below_then (below_then (below_then (below_then hbA (box_below wA _)) hbJ) (box_below wJ _)) hbR) hbS) hbK⟩
end
end Go.Proofs.Ytoaoldhajpbenaa
