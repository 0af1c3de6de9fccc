/- 'Runs' and the list that the statements make of it. No statement is proved here. -/
import Derived.Test.YtoaoldhajpbenaaEntR
import Derived.Maps.AppendAt
import Derived.WalkKit
namespace Go.Proofs.Ytoaoldhajpbenaa
open Go.RowKit Go.Shelf
attribute [local go_sem] Oper.semAt_some

theorem runs_in (n : Nat) (p : Option Addr) (w : World) :
    CallsIn Fence.wide n Try.prog 41 #[.pointer p] w fun e w' => e = .returned (.func (.func 83) #[] #[.pointer (some ⟨w.heap.size, 0, none⟩)]) ∧ w' = w.alloc (.cells #[.pointer p] 23) := by
  refine callsIn_of_wp Try.func41 rfl trivial ?_ rfl
  simp only [Try.ntmps41, List.size_toArray, List.length_cons, List.length_nil, Nat.reduceAdd, Nat.reduceSub, Array.replicate_succ, Array.replicate_zero, List.push_toArray, List.append_toArray, List.nil_append, List.cons_append]
  gi_wp2
  go_ret
  exact ⟨rfl, rfl⟩

theorem runs_stops (n : Nat) (hn : 1 ≤ n) (Bg n₀ : Nat) (p : Value) (g : Lg) (hg : g.Good) (w : World) (hBg : Bg < w.heap.size) (hn₀ : n₀ ≤ w.heap.size)
    (hc : w.cell? ⟨Bg, 0, none⟩ = some p) (hL : LogAt (· < n₀) w p g.parts) :
    SeqStopsK Fence.wide n Try.prog 83 #[.pointer (some ⟨Bg, 0, none⟩)] (fun x : Int × Int => #[Value.int .i64 x.1, .int .i64 x.2]) (Below n₀) (fun ys => ys = runsOf g.rs) (fun _ => True) g.rs.length w := fun l J Jx W hW hJ _ hY h0 => by
  have hb : Below n₀ w W := hW.mono hn₀
  have hsz := hb.size
  refine (runs1_in n hn l Bg n₀ p g hg J Jx hY W hJ (by omega) ((hW.cell (p := ⟨Bg, 0, none⟩) hBg).trans hc) (hL.keepS (Same.of_below hb)) h0)

theorem eql_nil_seq2 (f : Fn) (xs ys : Array Value) (w : World) : (binOp .eql 79 (.func f xs ys) .nilFunc).run Try.prog w = .ok (.bool false) w := by cases f <;> kernel_rfl
attribute [go_sem] eql_nil_seq2
theorem infoRefRun : (Try.prog.info? 29).map (fun i => (i.zero, i.size, i.bytes)) = some (some (.agg #[.int .i64 0, .int .i64 0]), 2, 16) := by kernel_rfl

/-- Cells of a list of runs. -/
def runCells (l : List (Int × Int)) : List Value := l.flatMap fun x => [.int .i64 x.1, .int .i64 x.2]
theorem runCells_snoc (l : List (Int × Int)) (x : Int × Int) : runCells (l ++ [x]) = runCells l ++ [.int .i64 x.1, .int .i64 x.2] := by simp [runCells]

set_option maxRecDepth 100000 in
set_option maxHeartbeats 2000000 in
theorem lawRuns_in (n : Nat) (hn : 3 ≤ n) (p : Value) (g : Lg) (hg : g.Good) (w : World) (hL : LogAt (· < w.heap.size) w p g.parts) :
    CallsIn Fence.wide n Try.prog 13 #[p] w fun e W' => ∃ v, e = .returned v ∧ W'.ownsRow w.heap.size 29 2 v g.rs.length (runCells (runsOf g.rs)) ∧ Below w.heap.size w W' := by
  have h1 : 1 ≤ n := by omega
  have hfR : Fence.wide.fn 41 := trivial
  obtain ⟨pa, rfl⟩ : ∃ pa, p = .pointer pa := by obtain ⟨b, sv, vs, rfl, -⟩ := hL; exact ⟨_, rfl⟩
  obtain ⟨i0, hi, hz0, hz1, hz2⟩ := info_parts infoRefRun
  refine callsIn_of_wp_marks Try.func13 rfl trivial ?_ rfl
  simp only [Try.ntmps13, List.size_toArray, List.length_cons, List.length_nil, Nat.reduceAdd, Nat.reduceSub, Array.replicate_succ, Array.replicate_zero, List.push_toArray, List.append_toArray, List.nil_append, List.cons_append]
  gi_wp2_with (gi_at_call 41; refine (runs_in (n - 1) _ _).mono ?_; rintro e w' ⟨rfl, rfl⟩)
  have bO := Boxed.new w 26 (.slice none 0 0)
  have bN := Boxed.new (w.alloc (.cells #[.slice none 0 0] 26)) 23 (.pointer pa)
  rw [World.size_alloc] at bN
  have hB0 : Below w.heap.size w ((w.alloc (.cells #[.slice none 0 0] 26)).alloc (.cells #[.pointer pa] 23)) := ((Below.refl _ w).alloc (Nat.le_refl _) _).alloc (by simp) _
  have hrl : g.rs.length ≤ 4096 := by have := g.parts_length; have := hg.parts_le; omega
  have HLq := hL.keepS (Same.of_below hB0)
  refine wpIn_rangeFunc_ownG rfl h1 (gf := 83) (lb := #[.pointer (some ⟨w.heap.size + 1, 0, none⟩)]) rfl trivial (enters_of Try.func83 (by kernel_rfl) rfl)
    (runs_stops (n - 1) (by omega) (w.heap.size + 1) w.heap.size (.pointer pa) g hg _ (by simp) (by simp; omega) bN.cell HLq) belowK_t (belowK_b (by simp; omega)) (Below.refl _ _) (fun _ => rfl)
    (fun pre W => (∃ v, Boxed W w.heap.size 26 v ∧ W.ownsRow w.heap.size 29 2 v pre.length (runCells pre) ∧ True) ∧ Below w.heap.size w W)
    (fun _ _ _ => False)
    (OwnFrom.and (Own.from (holdsRow_own w.heap.size w.heap.size 26 29 2 (fun pre => pre.length) (fun pre => runCells pre) (fun _ _ => True)) _) (ownFrom_below (Nat.le_refl _) (by simp; omega)))
    (fun _ _ _ _ _ hs _ _ => hs)
    ⟨⟨_, bO.alloc _, World.ownsRow_nil _ _ _ _, trivial⟩, hB0⟩
    (fun x => { tmps := #[.pointer pa, undef, .slice none 0 0, .pointer (some ⟨w.heap.size, 0, none⟩), .func (.func 83) #[] #[.pointer (some ⟨w.heap.size + 1, 0, none⟩)], .int .i64 x.1, .int .i64 x.2, .pointer pa, .func (.func 83) #[] #[.pointer (some ⟨w.heap.size + 1, 0, none⟩)], .func (.func 83) #[] #[.pointer (some ⟨w.heap.size + 1, 0, none⟩)], .bool false, .func (.func 83) #[] #[.pointer (some ⟨w.heap.size + 1, 0, none⟩)], .int .i64 x.1, .int .i64 x.2, undef, undef, undef, undef, undef, undef, undef], defers := [] }) ?assign ?body ?done ?stop
  case assign =>
    intro l x W K hK
    gi_wp2
    exact hK
  case body =>
    rintro l pre x W ⟨⟨v, hv, hrow, -⟩, hB⟩ hlt
    have hc := hv.cell
    gi_wp2_with (gi_at_builtin; refine wpListIn_append_own _ rfl _ _ 26 rfl w.heap.size 29 i0 (.agg #[.int .i64 0, .int .i64 0]) 2 16 Try.underlying26 hi hz0 hz1 hz2 rfl (by decide) _ _ _ rfl (hrow.alloc _) ⟨W.heap.size, 0, none⟩ 1 1 [.int .i64 x.1, .int .i64 x.2] rfl rfl (World.news_of_block (cs := #[.int .i64 x.1, .int .i64 x.2]) (t := 29) (fr := (0, 0)) (blk_new W _)) (by simp [Value.oneCell']) (by simp [maxLen]; omega) (by omega) (by have := hB.size; simp; omega) ?_; intro v' w1 hown' hgrow _; obtain ⟨g', cap', rfl⟩ := ownsRow_succ hown'; obtain ⟨hv1, hv2, hr2, hk2, hb2⟩ := hv.appended (by decide) hrow hB.size (Nat.le_refl _) hown' hgrow; have hc1 := hv1.cell; have hf1 := hv1.frozen)
    refine ⟨hk2.from _, hb2, ⟨_, hv2, ?_, trivial⟩, hB.trans hb2⟩
    rw [runCells_snoc, List.length_append]
    exact hr2
  case done =>
    rintro D ys W hD rfl ⟨⟨v, hv, hrow, -⟩, hB⟩ hK
    have hc := hv.cell
    gi_wp2
    refine ⟨by simp, .inl ⟨_, _, rfl, run_takeDeferred hK, ?_⟩⟩
    refine ⟨_, results_tmp rfl _ _ _, v, rfl, ?_, hB.trans (belowK_b (w := w) (Nat.le_refl _) W D _ _ (by simp at hD; omega) hK rfl rfl)⟩
    have := ownsRow_putObj hrow (.deferred none) hK rfl
    rw [runsOf_length] at this
    exact this
  case stop =>
    rintro D c pre W _ _ h _
    exact h.elim
end Go.Proofs.Ytoaoldhajpbenaa
