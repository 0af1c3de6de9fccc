/- 'find', 'Term', 'Top', 'Floor' and their like. No statement is proved here. -/
import Derived.Test.YtoaoldhajpbenaaEntL
namespace Go.Proofs.Ytoaoldhajpbenaa
open Go.RowKit

/-- No part ahead of the k-th has the place n. -/
def NoneHas (ps : List Part) (n : Int) (k : Nat) : Prop := ∀ j (h : j < ps.length), j < k → ps[j].has n = false
theorem NoneHas.zero (ps : List Part) (n : Int) : NoneHas ps n 0 := fun _ _ h => by omega
theorem NoneHas.succ {ps : List Part} {n : Int} {k : Nat} (h : NoneHas ps n k) (hk : k < ps.length) (h' : ps[k].has n = false) : NoneHas ps n (k + 1) := fun j hj hj' => by
  by_cases e : j = k
  · subst e; exact h'
  · exact h j hj (by omega)
/-- What 'find' answers. -/
def FindPost (S : Nat → Prop) (w : World) (ps : List Part) (n : Int) (e : Ending) : Prop :=
  (∃ (i : Nat) (h : i < ps.length) (v : Value), ps[i].has n = true ∧ NoneHas ps n i ∧ PartV S w v ps[i] ∧ e = .returned (.tuple #[v, .int .i64 i])) ∨
  (NoneHas ps n ps.length ∧ e = .returned (.tuple #[.nilIface, .int .i64 0]))

set_option maxRecDepth 100000 in
set_option maxHeartbeats 1000000 in
theorem find_any {S : Nat → Prop} (p : Value) (ps : List Part) (n : Int) (w : World) (h : LogAt S w p ps) (hok : ∀ q ∈ ps, q.ok) (hlen : ps.length ≤ 4097) :
    Calls Try.prog 42 #[p, .int .i64 n] w fun e w' => FindPost S w ps n e ∧ Below w.heap.size w w' := by
  obtain ⟨b, sv, vs, rfl, hSb, hcell, hrow, hpc⟩ := h
  clear hSb
  have hl0 := hpc.length
  rcases hrow.2 with ⟨h0, h1⟩ | ⟨pb, po, pc, rfl, hn, hc, hSp, hlt, hcells⟩
  · obtain rfl : ps = [] := List.eq_nil_of_length_eq_zero h0
    obtain ⟨A, c, rfl⟩ : ∃ A c, sv = .slice A 0 c := by
      rcases h1 with rfl | ⟨a, c, rfl⟩
      · exact ⟨_, _, rfl⟩
      · exact ⟨_, _, rfl⟩
    clear hrow hpc hl0 hok h0 h1
    go_enter Try.func42, Try.ntmps42
    go_wp2_with fail
    refine wp_loop_rounds 1 ?_
    rw [rounds_succ]
    go_wp2_with fail
    go_ret2
    exact ⟨.inr ⟨fun j hj => by simp at hj, rfl⟩, Below.refl _ _⟩
  · clear hSp
    unfold maxLen at hc
    have HC := Lib.hid hcells
    have HP := Lib.hid hpc
    have HR := Lib.hid hrow
    have HL := Lib.hid hl0
    have HOK := Lib.hid hok
    clear hcells hpc hrow hl0 hok
    go_enter Try.func42, Try.ntmps42
    go_wp2_with fail
    go_loopw [6, 7, 8, 9, 10, 11, 19] (fun _ _ _ _ _ _ i wr => ∃ k : Nat, k ≤ ps.length ∧ i = .int .i64 k ∧ Below w.heap.size w wr ∧ NoneHas ps n k) (fun _ _ _ _ _ _ i _ => ps.length - (intOf i).toNat)
    case atStart => exact ⟨0, Nat.zero_le _, rfl, Below.refl _ _, NoneHas.zero _ _⟩
    case round =>
      obtain ⟨k, hk, rfl, hb, hno⟩ := hrel
      have Hno := Lib.hid hno
      clear hno
      by_cases hlt' : k < ps.length
      · obtain ⟨v, hv, hpv⟩ := HP.out.at k hlt'
        have hcv := cell_keep hb (HC.out k v hv)
        have hok := HOK.out _ (List.getElem_mem hlt')
        have HPV := Lib.hid hpv
        cases hq : ps[k] with
        | ground a t m =>
          rw [hq] at hpv hok
          obtain rfl := hpv
          have Hq := Lib.hid hq
          have Hok := Lib.hid hok
          have Hv := Lib.hid hv
          clear hv hq hok
          go_wp2_with (go_at_call 127; refine (last_ground a t m _).mono ?_; rintro e w1 ⟨rfl, hb1⟩)
          · have he : (n == a) = true := by assumption
            go_ret2
            exact ⟨.inl ⟨k, hlt', _, by rw [Hq.out]; simpa [Part.has] using he, Hno.out, HPV.out, rfl⟩, hb.trans ((hb1.alloc hb1.size _).mono hb.size)⟩
          · have he : (n == a) = false := by assumption
            go_roundw
            case rel => exact ⟨k + 1, by omega, by go_num, hb.trans ((hb1.alloc hb1.size _).mono hb.size), Hno.out.succ hlt' (by rw [Hq.out]; simpa [Part.has] using he)⟩
            case measure => simp [intOf]; omega
        | run f l =>
          rw [hq] at hpv hok
          obtain ⟨sv, rfl, cs, hrl, hec⟩ := hpv
          obtain ⟨ho1, ho2, ho3, ho4⟩ := hok
          obtain ⟨rb, ro, rc, rfl, _, hrc, _, _, hrcell⟩ := hrl.form ho3
          obtain ⟨cv, hc0, hc1, hc2, _⟩ := hec.at 0 ho3
          have hterm := cell_keep hb (hrcell _ _ hc1)
          have Hq := Lib.hid hq
          have Hv := Lib.hid hv
          clear hv hq hc0 hc1 hc2 hrcell hec hrl
          simp only [Nat.zero_mul, Nat.zero_add] at hterm
          go_wp2_with (go_at_call 126; refine (last_run f _ rb ro l.length rc _ hterm ho3 ho4 ho1 ho2).mono ?_; rintro e w1 ⟨rfl, hb1⟩)
          · have he1 : f ≤ n := by assumption
            have he2 : n ≤ f + l.length - 1 := by assumption
            go_ret2
            exact ⟨.inl ⟨k, hlt', _, by rw [Hq.out]; simp [Part.has, he1, he2], Hno.out, HPV.out, rfl⟩, hb.trans ((hb1.alloc hb1.size _).mono hb.size)⟩
          · have he2 : f + l.length - 1 < n := by assumption
            go_roundw
            case rel => exact ⟨k + 1, by omega, by go_num, hb.trans ((hb1.alloc hb1.size _).mono hb.size), Hno.out.succ hlt' (by rw [Hq.out]; simp [Part.has]; omega)⟩
            case measure => simp [intOf]; omega
          · have he2 : ¬ f ≤ n := by assumption
            go_roundw
            case rel => exact ⟨k + 1, by omega, by go_num, hb.trans ((hb1.alloc hb1.size _).mono hb.size), Hno.out.succ hlt' (by rw [Hq.out]; simp [Part.has]; omega)⟩
            case measure => simp [intOf]; omega
      · obtain rfl : k = ps.length := by omega
        go_wp2_with fail
        go_ret2
        exact ⟨.inr ⟨Hno.out, rfl⟩, hb⟩

/-- Of a good log. -/
theorem find_lg {S : Nat → Prop} (p : Value) (g : Lg) (n : Int) (w : World) (h : LogAt S w p g.parts) (hg : g.Good) :
    Calls Try.prog 42 #[p, .int .i64 n] w fun e w' => FindPost S w g.parts n e ∧ Below w.heap.size w w' :=
  find_any p g.parts n w h hg.ok hg.parts_le

theorem eql_nil_part (T : TypeId) (v : Value) (w : World) : (binOp .eql 82 (.iface T v) .nilIface).run Try.prog w = .ok (.bool false) w := by kernel_rfl
theorem neq_nil_part (T : TypeId) (v : Value) (w : World) : (binOp .neq 82 (.iface T v) .nilIface).run Try.prog w = .ok (.bool true) w := by kernel_rfl
theorem eql_nil_nil (w : World) : (binOp .eql 82 .nilIface .nilIface).run Try.prog w = .ok (.bool true) w := by kernel_rfl
theorem neq_nil_nil (w : World) : (binOp .neq 82 .nilIface .nilIface).run Try.prog w = .ok (.bool false) w := by kernel_rfl
attribute [go_sem] eql_nil_part neq_nil_part eql_nil_nil neq_nil_nil

set_option maxHeartbeats 1000000 in
theorem term_any {S : Nat → Prop} (p : Value) (g : Lg) (n : Int) (w : World) (h : LogAt S w p g.parts) (hg : g.Good) :
    Calls Try.prog 14 #[p, .int .i64 n] w fun e w' => e = .returned (.int .i64 (g.termAt n)) ∧ Below w.heap.size w w' := by
  have Hf := Lib.hid (find_lg p g n w h hg)
  go_enter Try.func14, Try.ntmps14
  go_wp2_with fail
  refine Hf.out.mono ?_
  rintro e w1 ⟨hp, hb⟩
  rcases hp with ⟨i, hi, v, hh, hno, hv, rfl⟩ | ⟨hno, rfl⟩
  · rcases hg.part hi hh with ⟨rfl, rfl⟩ | ⟨j, hj, rfl, h1, h2, h3, h4, -, he⟩
    · rw [g.parts_zero] at hv
      obtain rfl := hv
      clear hno
      go_wp2_with (go_at_call 127; refine (last_ground g.a g.t g.m _).mono ?_; rintro e w2 ⟨rfl, hb2⟩)
      go_ret
      exact ⟨by rw [Lg.Good.termAt_ground]; rfl, below_then hb hb2⟩
    · rw [g.parts_succ j hj] at hv
      have HT := Lib.hid (hg.termAt_run hj h1 h2 h3 h4 he)
      obtain ⟨k1, k2, k3, k4⟩ := hg.run_ok j hj
      clear h3 h4 he hh
      obtain ⟨sv, rfl, cs, hrl, hec⟩ := hv
      obtain ⟨rb, ro, rc, rfl, _, hrc, _, _, hrcell⟩ := hrl.form k3
      obtain ⟨cv, hc0, hc1, hc2, _⟩ := hec.at 0 k3
      have hterm := cell_keep hb (hrcell _ _ hc1)
      simp only [Nat.zero_mul, Nat.zero_add] at hterm
      clear hno hc0 hc1 hc2 hrcell hec hrl
      go_wp2_with (go_at_call 126; refine (last_run _ _ rb ro _ rc _ hterm k3 k4 k1 k2).mono ?_; rintro e w2 ⟨rfl, hb2⟩)
      go_ret
      refine ⟨?_, below_then hb hb2⟩
      rw [HT.out, head_term k3]
      rfl
  · have HT := Lib.hid (Lg.termAt_none (hg.noPart fun j hj => hno j hj hj))
    clear hno
    go_wp2_with fail
    go_ret
    exact ⟨by rw [HT.out]; rfl, hb⟩
end Go.Proofs.Ytoaoldhajpbenaa
