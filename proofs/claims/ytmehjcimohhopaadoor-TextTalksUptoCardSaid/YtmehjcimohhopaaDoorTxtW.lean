/- Nothing is greater than it was: the law, walked. No statement is proved here. -/
import Derived.Test.YtmehjcimohhopaaDoorTxtU
import Derived.Test.YtmehjcimohhopaaDoorTxtV
namespace Go.Proofs.YtmehjcimohhopaaDoor
open Go.RowKit

theorem parV_v (p : Par) : parV p = .agg #[.bool p.hs, .bool p.ds, .int .i64 p.mo, .int .i64 p.mi, .int .i64 p.bu, .int .i64 p.fi, .bool p.asked, .bool p.im, .bool p.di, .string p.ini, .string p.tgt] := rfl
theorem talkRun_in : ∀ (l : List Pr) (s : List Pr × Par), in64 s.2.bu ∧ in64 s.2.fi → ∀ t, l.foldl talkStep (some s) = some t → in64 t.2.bu ∧ in64 t.2.fi
  | [], s, h, t, ht => by
    obtain rfl : s = t := Option.some.inj ht
    exact h
  | p :: l, s, h, t, ht => by
    have h1 : List.foldl talkStep (talkStep (some s) p) l = some t := ht
    cases hst : talkStep (some s) p with
    | none => rw [hst, talk_none] at h1; cases h1
    | some u =>
      rw [hst] at h1
      have h2 : (if (ansP s.2 p.1 p.2).2.ok = true then some (if (ansP s.2 p.1 p.2).2.told = true then s.1 ++ [(p.1, (ansP s.2 p.1 p.2).2.val)] else s.1, (ansP s.2 p.1 p.2).1) else none) = some u := hst
      split at h2
      · obtain rfl := Option.some.inj h2
        exact talkRun_in l _ (ansP_in s.2 p.1 p.2 h) t h1
      · cases h2
theorem talkP_in (P : Par) (l : List Pr) (h : in64 P.bu ∧ in64 P.fi) : in64 (talkP P l).2.1.bu ∧ in64 (talkP P l).2.1.fi := by
  unfold talkP
  cases ht : talkRun P l with
  | none => exact h
  | some t =>
    have g := talkRun_in l ([], P) h t ht
    refine ⟨g.1, ?_⟩
    show in64 (if t.2.bu < t.2.fi then t.2.bu else t.2.fi)
    split
    · exact g.1
    · exact g.2
/-- Behind the second talk: what is told, what is agreed on (in a block of its own), whether it came to an end. -/
def LessPost (w WA : World) (o2 : List Pr) (P2 : Par) (e2 : Int) (s8 s9 s10 : Value) (wx : World) : Prop :=
  ∃ q : Nat, s9 = .pointer (some ⟨q, 0, none⟩) ∧ s10 = .int .i64 e2 ∧ PairsAt (fun b => w.heap.size ≤ b) wx s8 o2 ∧ wx.heap[q]? = some (.cells (parCells P2) 32 (0, 0)) ∧ Below WA.heap.size WA wx
theorem lp_new {w WA W5 : World} {v : Value} {o2 : List Pr} {P2 : Par} {e2 : Int} {n : Nat} (hw : w.heap.size ≤ n) (hp : PairsAt (fun b => n ≤ b) W5 v o2) (hb : Below WA.heap.size WA W5) :
    LessPost w WA o2 P2 e2 v (.pointer (some ⟨W5.heap.size, 0, none⟩)) (.int .i64 e2) (W5.alloc (.cells #[.bool P2.hs, .bool P2.ds, .int .i64 P2.mo, .int .i64 P2.mi, .int .i64 P2.bu, .int .i64 P2.fi, .bool P2.asked, .bool P2.im, .bool P2.di, .string P2.ini, .string P2.tgt] 32)) :=
  ⟨_, rfl, rfl, RowAt.mono (PairsAt.keep hp (box_below _ _)) (fun _ _ h => Nat.le_trans hw h), blk_new _ _, below_alloc hb _⟩
theorem lp_old {w WA W5 : World} {v : Value} {o2 : List Pr} {P2 : Par} {e2 : Int} {n q : Nat} (hw : w.heap.size ≤ n) (hp : PairsAt (fun b => n ≤ b) W5 v o2) (hb : Below WA.heap.size WA W5) (hq : q < n) (hWq : WA.heap.size ≤ q)
    (hz : W5.heap[q]? = some (.cells #[.bool false, .bool false, .int .i64 0, .int .i64 0, .int .i64 0, .int .i64 0, .bool false, .bool false, .bool false, .string ⟨#[]⟩, .string ⟨#[]⟩] 32 (0, 0))) :
    LessPost w WA o2 P2 e2 v (.pointer (some ⟨q, 0, none⟩)) (.int .i64 e2) (((((((((((W5.setCell ⟨q, 0, none⟩ (.bool P2.hs)).setCell ⟨q, 1, none⟩ (.bool P2.ds)).setCell ⟨q, 2, none⟩ (.int .i64 P2.mo)).setCell ⟨q, 3, none⟩ (.int .i64 P2.mi)).setCell ⟨q, 4, none⟩ (.int .i64 P2.bu)).setCell ⟨q, 5, none⟩ (.int .i64 P2.fi)).setCell ⟨q, 6, none⟩ (.bool P2.asked)).setCell ⟨q, 7, none⟩ (.bool P2.im)).setCell ⟨q, 8, none⟩ (.bool P2.di)).setCell ⟨q, 9, none⟩ (.string P2.ini)).setCell ⟨q, 10, none⟩ (.string P2.tgt)) := by
  have hs : Same (fun b => n ≤ b) W5 W5 := Same.refl _ _
  have hn : ∀ k : Nat, ¬ (n ≤ (⟨q, k, none⟩ : Addr).block) := fun k h => by have h' : n ≤ q := h; omega
  have h11 := ((((((((((hs.setCell (hn 0) (.bool P2.hs)).setCell (hn 1) (.bool P2.ds)).setCell (hn 2) (.int .i64 P2.mo)).setCell (hn 3) (.int .i64 P2.mi)).setCell (hn 4) (.int .i64 P2.bu)).setCell (hn 5) (.int .i64 P2.fi)).setCell (hn 6) (.bool P2.asked)).setCell (hn 7) (.bool P2.im)).setCell (hn 8) (.bool P2.di)).setCell (hn 9) (.string P2.ini)).setCell (hn 10) (.string P2.tgt)
  exact ⟨_, rfl, rfl, RowAt.mono (RowAt.keepS hp h11) (fun _ _ h => Nat.le_trans hw h), set11 hz _ _ _ _ _ _ _ _ _ _ _, below11 hb hWq _ _ _ _ _ _ _ _ _ _ _⟩
theorem str_ne {a b : ByteArray} (h : ¬ a = b) : (a.toList == b.toList) = false :=
  beq_eq_false_iff_ne.2 fun e => h (by rw [ByteArray.toList_eq, ByteArray.toList_eq] at e; exact ByteArray.ext (Array.toList_inj.1 e))
theorem grd_same {o m : List Pr} {k i : Nat} (hk : k < o.length) (hi : i < m.length) (h : grd ((o.map (·.1)).drop k) ((m.map (·.1)).drop i) = []) (he : o[k].1 = m[i].1) : grd ((o.map (·.1)).drop (k + 1)) ((m.map (·.1)).drop (i + 1)) = [] := by
  rw [List.drop_eq_getElem_cons (by simpa using hk), List.drop_eq_getElem_cons (l := m.map (·.1)) (by simpa using hi)] at h
  unfold grd at h
  rw [if_pos (by simpa using he)] at h
  exact h
theorem grd_other {o m : List Pr} {k i : Nat} (hk : k < o.length) (hi : i < m.length) (h : grd ((o.map (·.1)).drop k) ((m.map (·.1)).drop i) = []) (he : ¬ o[k].1 = m[i].1) : grd ((o.map (·.1)).drop k) ((m.map (·.1)).drop (i + 1)) = [] := by
  rw [List.drop_eq_getElem_cons (by simpa using hk), List.drop_eq_getElem_cons (l := m.map (·.1)) (by simpa using hi)] at h
  unfold grd at h
  rw [if_neg (by simpa using he)] at h
  rw [List.drop_eq_getElem_cons (by simpa using hk)]
  exact h
theorem grd_stop {o m : List Pr} {k i : Nat} (hk : k ≤ o.length) (hi : m.length ≤ i) (h : grd ((o.map (·.1)).drop k) ((m.map (·.1)).drop i) = []) : k = o.length := by
  have e : (m.map (·.1)).drop i = [] := List.drop_eq_nil_of_le (by simpa using hi)
  rw [e, grd_end] at h
  have := congrArg List.length h
  simp at this
  omega
set_option maxRecDepth 100000 in
set_option maxHeartbeats 2000000 in
theorem textLess_long {S : Nat → Prop} (va vb : Value) (l more : List Pr) (w : World) (hl : PairsAt S w va l) (hb : PairsAt S w vb more) (hm : Mx w) (h : 100 < l.length ∨ 100 < more.length) :
    Calls Tryd.prog 5 #[va, vb] w fun e w' => e = .returned (.bool true) ∧ Below w.heap.size w w' := by
  obtain ⟨A, cA, rfl⟩ := hl.slice
  obtain ⟨B, cB, rfl⟩ := hb.slice
  have Hm := Lib.hid hm
  clear hl hb hm
  by_cases h1 : 100 < l.length
  · have h1' : (100 : Int) < l.length := by omega
    clear h
    go_enter Tryd.func5, Tryd.ntmps5
    go_wp2_with (go_at_call 13; refine (known_any _ Hm.out).mono ?_; rintro _ W6 ⟨rfl, hb6⟩; have HB := Lib.hid hb6; clear hb6)
    go_ret
    exact ⟨rfl, HB.out⟩
  · have h1' : ¬ (100 : Int) < l.length := by omega
    have h2 : (100 : Int) < more.length := by omega
    clear h
    go_enter Tryd.func5, Tryd.ntmps5
    go_wp2_with (go_at_call 13; refine (known_any _ Hm.out).mono ?_; rintro _ W6 ⟨rfl, hb6⟩; have HB := Lib.hid hb6; clear hb6)
    go_ret
    exact ⟨rfl, HB.out⟩

set_option maxRecDepth 100000 in
set_option maxHeartbeats 2000000 in
theorem textLess_any {S : Nat → Prop} (va vb : Value) (l more : List Pr) (w : World) (hl : PairsAt S w va l) (hb : PairsAt S w vb more) (hv : ∀ p ∈ l, p.2.size < 4294967281) (hv2 : ∀ p ∈ more, p.2.size < 4294967281) (hm : Mx w) (h1 : l.length ≤ 100) (h2 : more.length ≤ 100) :
    Calls Tryd.prog 5 #[va, vb] w fun e w' => e = .returned (.bool true) ∧ Below w.heap.size w w' := by
  obtain ⟨A, cA, rfl⟩ := hl.slice
  obtain ⟨B, cB, rfl⟩ := hb.slice
  have HL := Lib.hid hl
  have HR := Lib.hid hb
  have HV := Lib.hid (And.intro hv hv2)
  have Hm := Lib.hid hm
  have h1' : ¬ (100 : Int) < l.length := by omega
  have h2' : ¬ (100 : Int) < more.length := by omega
  have H12 := Lib.hid (And.intro h1 h2)
  have HB := Lib.hid (Below.refl w.heap.size w)
  have hin : in64 defPar.bu ∧ in64 defPar.fi := by simp only [in64, defPar]; omega
  have hin1 := talkP_in defPar l hin
  have hless := talkP_less defPar l
  have hT1 := fun (v : Value) (W W1 : World) (hp : PairsAt (w.heap.size ≤ ·) W v l) (hb : Below w.heap.size w W) => talk_any defPar v l W hp (by omega) hv (hm.keep hb) hin
  obtain ⟨⟨o1, P1, e1⟩, ht⟩ : ∃ r, talkP defPar l = r := ⟨_, rfl⟩
  rw [ht] at hless hin1
  simp only at hless hin1
  have Ht := Lib.hid ht
  have Hin := Lib.hid (And.intro hin hin1)
  clear hl hb hv hv2 hm h1 h2 ht hT1 hin hin1
  rcases hless with ⟨rfl, rfl, rfl⟩ | ⟨rfl, hless⟩
  · go_enter Tryd.func5, Tryd.ntmps5
    go_wp2_with (first
      | (go_at_call 15; refine (xdefault_any _).mono ?_; rintro _ W1 ⟨rfl, hb1⟩; have HB : Hid (Below w.heap.size w W1) := Lib.hid (by first | exact below_then HB.out hb1 | exact below_then (below_alloc HB.out _) hb1 | exact below_then (below_alloc (below_alloc HB.out _) _) hb1); clear hb1)
      | (go_at_call 19; refine (given_any _ l _ (HL.out.keep (by first | exact HB.out | exact below_alloc HB.out _ | exact below_alloc (below_alloc HB.out _) _)) (by have := H12.out; omega)).mono ?_; rintro _ W2 ⟨v2, rfl, hp2, hb2⟩; have HP2 := Lib.hid hp2; have HB : Hid (Below w.heap.size w W2) := Lib.hid (by first | exact below_then HB.out hb2 | exact below_then (below_alloc HB.out _) hb2 | exact below_then (below_alloc (below_alloc HB.out _) _) hb2); clear hp2 hb2)
      | (go_at_call 17; refine (talk_any defPar _ l _ HP2.out (by have := H12.out; omega) HV.out.1 (Hm.out.keep (by first | exact HB.out | exact below_alloc HB.out _ | exact below_alloc (below_alloc HB.out _) _)) Hin.out.1).mono ?_; rw [Ht.out]; rintro _ W3 ⟨v3, rfl, hp3, hb3⟩; have HB : Hid (Below w.heap.size w W3) := Lib.hid (by first | exact below_then HB.out hb3 | exact below_then (below_alloc HB.out _) hb3 | exact below_then (below_alloc (below_alloc HB.out _) _) hb3); clear hp3 hb3; simp only [parV_v])
      | (go_at_call 14; refine (xparams_any defPar _).mono ?_; rintro _ W4 ⟨rfl, hb4⟩; have HB : Hid (Below w.heap.size w W4) := Lib.hid (by first | exact below_then HB.out hb4 | exact below_then (below_alloc HB.out _) hb4 | exact below_then (below_alloc (below_alloc HB.out _) _) hb4); clear hb4; simp only [parV_v])
      | (go_at_call 16; refine (ydefault_any _).mono ?_; rintro _ W5 ⟨rfl, hb5⟩; have HB : Hid (Below w.heap.size w W5) := Lib.hid (by first | exact below_then HB.out hb5 | exact below_then (below_alloc HB.out _) hb5 | exact below_then (below_alloc (below_alloc HB.out _) _) hb5); clear hb5; simp only [parV_v])
      | (go_at_call 13; refine (known_any _ (Hm.out.keep (by first | exact HB.out | exact below_alloc HB.out _ | exact below_alloc (below_alloc HB.out _) _))).mono ?_; rintro _ W6 ⟨rfl, hb6⟩; have HB : Hid (Below w.heap.size w W6) := Lib.hid (by first | exact below_then HB.out hb6 | exact below_then (below_alloc HB.out _) hb6 | exact below_then (below_alloc (below_alloc HB.out _) _) hb6); clear hb6))
    go_ret
    exact ⟨rfl, HB.out⟩
  · have hless2 := talkP_less P1 more
    have hin1 := Hin.out.2
    have hin2 := talkP_in P1 more hin1
    obtain ⟨⟨o2, P2, e2⟩, ht2⟩ : ∃ r, talkP P1 more = r := ⟨_, rfl⟩
    rw [ht2] at hless2 hin2
    simp only at hless2 hin2
    have Hless2 := Lib.hid hless2
    have Ht2 := Lib.hid ht2
    have Hin1 := Lib.hid hin1
    have Hin2 := Lib.hid hin2
    have Hless := Lib.hid hless
    clear ht2 hin1 hin2 hless Hin hless2
    have hT1 : ∀ (v : Value) (W : World), PairsAt (fun b => w.heap.size ≤ b) W v l → Below w.heap.size w W → Calls Tryd.prog 17 #[parV defPar, v] W (TalkTo W (o1, P1, 0)) := fun v W hp hb => Ht.out ▸ talk_any defPar v l W hp (by have := H12.out; omega) HV.out.1 (Hm.out.keep hb) (by simp only [in64, defPar]; omega)
    have hT2 : ∀ (v : Value) (W : World), PairsAt (fun b => w.heap.size ≤ b) W v more → Below w.heap.size w W → Calls Tryd.prog 17 #[parV P1, v] W (TalkTo W (o2, P2, e2)) := fun v W hp hb => Ht2.out ▸ talk_any P1 v more W hp (by have := H12.out; omega) HV.out.2 (Hm.out.keep hb) Hin1.out
    have HT1 := Lib.hid hT1
    have HT2 := Lib.hid hT2
    clear hT1 hT2
    have HK1 : Hid (∀ W, Calls Tryd.prog 14 #[parV P1] W fun e w' => e = .returned (parV P1) ∧ Below W.heap.size W w') := Lib.hid (xparams_any P1)
    have HK2 : Hid (∀ W, Calls Tryd.prog 14 #[parV P2] W fun e w' => e = .returned (parV P2) ∧ Below W.heap.size W w') := Lib.hid (xparams_any P2)
    go_enter Tryd.func5, Tryd.ntmps5
    go_wp2_with (first
      | (go_at_call 15; refine (xdefault_any _).mono ?_; rintro _ W1 ⟨rfl, hb1⟩; have HB : Hid (Below w.heap.size w W1) := Lib.hid (by first | exact below_then HB.out hb1 | exact below_then (below_alloc HB.out _) hb1); clear hb1)
      | (go_at_call_of 19 (Value.slice A l.length cA); refine (given_any _ l _ (HL.out.keep (by first | exact HB.out | exact below_alloc HB.out _)) (by have := H12.out; omega)).mono ?_; rintro _ W2 ⟨v2, rfl, hp2, hb2⟩; have HP2 : Hid (PairsAt (fun b => w.heap.size ≤ b) W2 v2 l) := Lib.hid (RowAt.mono hp2 (fun b _ h => by first | exact Nat.le_trans HB.out.size h | exact Nat.le_trans HB.out.size (Nat.le_trans (box_below _ _).size h))); have HB : Hid (Below w.heap.size w W2) := Lib.hid (by first | exact below_then HB.out hb2 | exact below_then (below_alloc HB.out _) hb2); clear hp2 hb2)
      | (go_at_call_of 17 (parV defPar); refine (HT1.out _ _ HP2.out HB.out).mono ?_; rintro _ W3 ⟨v3, rfl, hp3, hb3⟩; obtain ⟨A3, c3, rfl⟩ := RowAt.slice hp3; have HB : Hid (Below w.heap.size w W3) := Lib.hid (below_then HB.out hb3); clear hp3 hb3; simp only [parV_v])
      | (go_at_call_of 19 (Value.slice B more.length cB); refine (given_any _ more _ (HR.out.keep (by first | exact HB.out | exact below_alloc HB.out _)) (by have := H12.out; omega)).mono ?_; rintro _ W4 ⟨v4, rfl, hp4, hb4⟩; have HP4 : Hid (PairsAt (fun b => w.heap.size ≤ b) W4 v4 more) := Lib.hid (RowAt.mono hp4 (fun b _ h => by first | exact Nat.le_trans HB.out.size h | exact Nat.le_trans HB.out.size (Nat.le_trans (box_below _ _).size h))); have x6 := hb4; have HB : Hid (Below w.heap.size w W4) := Lib.hid (by first | exact below_then HB.out hb4 | exact below_then (below_alloc HB.out _) hb4); clear hp4 hb4 x6))
    have hWA := blk_new W3 (.cells #[.bool P1.hs, .bool P1.ds, .int .i64 P1.mo, .int .i64 P1.mi, .int .i64 P1.bu, .int .i64 P1.fi, .bool P1.asked, .bool P1.im, .bool P1.di, .string P1.ini, .string P1.tgt] 32)
    have hbA := box_below W3 (.cells #[.bool P1.hs, .bool P1.ds, .int .i64 P1.mo, .int .i64 P1.mi, .int .i64 P1.bu, .int .i64 P1.fi, .bool P1.asked, .bool P1.im, .bool P1.di, .string P1.ini, .string P1.tgt] 32)
    generalize W3.alloc (.cells #[.bool P1.hs, .bool P1.ds, .int .i64 P1.mo, .int .i64 P1.mi, .int .i64 P1.bu, .int .i64 P1.fi, .bool P1.asked, .bool P1.im, .bool P1.di, .string P1.ini, .string P1.tgt] 32) = WA at hWA hbA ⊢
    obtain ⟨b0, hb0⟩ : ∃ b, W3.heap.size = b := ⟨_, rfl⟩
    have HBA : Hid (Below w.heap.size w WA) := Lib.hid (below_then HB.out hbA)
    rw [hb0] at hWA ⊢
    have HWA := Lib.hid hWA
    obtain ⟨⟨d0, d1, d2, d3, d4, d5, d6, d7, d8, d9, d10⟩, -⟩ := cells11 hWA
    have dd0 := fun o => cell_keep (box_below WA o) d0
    have dd1 := fun o => cell_keep (box_below WA o) d1
    have dd2 := fun o => cell_keep (box_below WA o) d2
    have dd3 := fun o => cell_keep (box_below WA o) d3
    have dd4 := fun o => cell_keep (box_below WA o) d4
    have dd5 := fun o => cell_keep (box_below WA o) d5
    have dd6 := fun o => cell_keep (box_below WA o) d6
    have dd7 := fun o => cell_keep (box_below WA o) d7
    have dd8 := fun o => cell_keep (box_below WA o) d8
    have dd9 := fun o => cell_keep (box_below WA o) d9
    have dd10 := fun o => cell_keep (box_below WA o) d10
    clear hWA hbA hb0
    have hGV : ∀ W, Below WA.heap.size WA W → Calls Tryd.prog 19 #[.slice B more.length cB] W fun e w' => ∃ v, e = .returned v ∧ PairsAt (fun b => w.heap.size ≤ b) w' v more ∧ Below W.heap.size W w' := fun W hW => by
      have h1 := below_then HBA.out hW
      refine (given_any _ more W (HR.out.keep h1) (by have := H12.out; omega)).mono ?_
      rintro _ w' ⟨v, rfl, hp, hb⟩
      exact ⟨v, rfl, RowAt.mono hp (fun b _ h => Nat.le_trans h1.size h), hb⟩
    have hTK : ∀ v W, Below WA.heap.size WA W → PairsAt (fun b => w.heap.size ≤ b) W v more → Calls Tryd.prog 17 #[.agg #[.bool P1.hs, .bool P1.ds, .int .i64 P1.mo, .int .i64 P1.mi, .int .i64 P1.bu, .int .i64 P1.fi, .bool P1.asked, .bool P1.im, .bool P1.di, .string P1.ini, .string P1.tgt], v] W fun e w' => ∃ v' : Value, e = .returned (.tuple #[v', .agg #[.bool P2.hs, .bool P2.ds, .int .i64 P2.mo, .int .i64 P2.mi, .int .i64 P2.bu, .int .i64 P2.fi, .bool P2.asked, .bool P2.im, .bool P2.di, .string P2.ini, .string P2.tgt], .int .i64 e2]) ∧ PairsAt (fun b => W.heap.size ≤ b) w' v' o2 ∧ Below W.heap.size W w' := fun v W hW hp => by
      have h1 := below_then HBA.out hW
      refine (HT2.out v W hp h1).mono ?_
      rintro _ w' ⟨v', rfl, hp', hb⟩
      exact ⟨v', rfl, hp', hb⟩
    have HGV := Lib.hid hGV
    have HTK := Lib.hid hTK
    clear hGV hTK
    go_cut [8, 9, 10] (fun s8 s9 s10 wx => LessPost w WA o2 P2 e2 s8 s9 s10 wx)
    case first =>
      go_region_law (first
        | (go_simp; go_at_call 19; refine (HGV.out _ (by repeat (first | exact Below.refl _ _ | assumption | refine below_drewN ?_ _ | refine Below.drew ?_ | refine below_then ?_ (by assumption) | refine below_alloc ?_ _))).mono ?_; rintro _ W4 ⟨v4, rfl, hp4, hb4⟩; have HP4 := Lib.hid hp4; have HB4 : Hid (Below WA.heap.size WA W4) := Lib.hid (below_then (by repeat (first | exact Below.refl _ _ | assumption | refine below_drewN ?_ _ | refine Below.drew ?_ | refine below_then ?_ (by assumption) | refine below_alloc ?_ _)) hb4); obtain ⟨⟨q0, q1, q2, q3, q4, q5, q6, q7, q8, q9, q10⟩, -⟩ := cells11 (blk_keep HB4.out HWA.out); have r0 := fun o => cell_keep (box_below W4 o) q0; have r1 := fun o => cell_keep (box_below W4 o) q1; have r2 := fun o => cell_keep (box_below W4 o) q2; have r3 := fun o => cell_keep (box_below W4 o) q3; have r4 := fun o => cell_keep (box_below W4 o) q4; have r5 := fun o => cell_keep (box_below W4 o) q5; have r6 := fun o => cell_keep (box_below W4 o) q6; have r7 := fun o => cell_keep (box_below W4 o) q7; have r8 := fun o => cell_keep (box_below W4 o) q8; have r9 := fun o => cell_keep (box_below W4 o) q9; have r10 := fun o => cell_keep (box_below W4 o) q10; (first | (have hz := blk_keep hb4 (show _ = some (.cells #[.bool false, .bool false, .int .i64 0, .int .i64 0, .int .i64 0, .int .i64 0, .bool false, .bool false, .bool false, .string ⟨#[]⟩, .string ⟨#[]⟩] 32 (0, 0)) from blk_new WA _); have HZ := Lib.hid hz; clear hz) | have HZ := Lib.hid trivial); clear hp4 hb4)
        | (go_simp; go_at_call 17; refine (HTK.out _ _ (by first | exact HB4.out | exact below_alloc HB4.out _) (by first | exact HP4.out | exact PairsAt.keep HP4.out (box_below _ _))).mono ?_; rintro _ W5 ⟨v5, rfl, hp5, hb5⟩; have HP5 := Lib.hid hp5; have HB5 : Hid (Below WA.heap.size WA W5) := Lib.hid (by first | exact below_then HB4.out hb5 | exact below_then (below_alloc HB4.out _) hb5); (first | (have hz := blk_keep hb5 HZ.out; obtain ⟨⟨z0, z1, z2, z3, z4, z5, z6, z7, z8, z9, z10⟩, -⟩ := cells11 hz; obtain ⟨f0, f1, f2, f3, f4, f5, f6, f7, f8, f9, f10⟩ := frozen11 hz; have HZE := Lib.hid hz; clear hz) | (have hz := blk_keep hb5 (show _ = some (.cells #[.bool false, .bool false, .int .i64 0, .int .i64 0, .int .i64 0, .int .i64 0, .bool false, .bool false, .bool false, .string ⟨#[]⟩, .string ⟨#[]⟩] 32 (0, 0)) from blk_new W4 _); obtain ⟨⟨z0, z1, z2, z3, z4, z5, z6, z7, z8, z9, z10⟩, -⟩ := cells11 hz; obtain ⟨f0, f1, f2, f3, f4, f5, f6, f7, f8, f9, f10⟩ := frozen11 hz; have HZE := Lib.hid hz; clear hz) | have HZE := Lib.hid trivial); clear hp5 hb5))
      all_goals
        go_wp2_with fail
        go_meet
        have hWW : w.heap.size ≤ WA.heap.size := HBA.out.size
        have hW4 : WA.heap.size ≤ W4.heap.size := HB4.out.size
        first
          | (have h0 : Hid True := HZE; exact lp_new (Nat.le_trans hWW hW4) HP5.out HB5.out)
          | (have h0 : Hid True := HZ; have hs4 : W4.heap.size < W4.heap.size + 1 := Nat.lt_succ_self _; exact lp_old (n := W4.heap.size + 1) (q := W4.heap.size) (by omega) (RowAt.mono HP5.out (fun b _ h => by simp at h; omega)) HB5.out hs4 hW4 HZE.out)
          | exact lp_old (n := W4.heap.size) (q := WA.heap.size) (Nat.le_trans hWW hW4) HP5.out HB5.out (Array.getElem?_eq_some_iff.1 HZ.out).1 (Nat.le_refl _) HZE.out
    case rest =>
      obtain ⟨q, rfl, rfl, hp, hq, hb⟩ := hcut
      obtain ⟨A5, c5, rfl⟩ := RowAt.slice hp
      have HP := Lib.hid hp
      have HQ := Lib.hid hq
      have HA := Lib.hid (blk_keep hb HWA.out)
      have HB : Hid (Below w.heap.size w wc) := Lib.hid (below_then HBA.out hb)
      have hk0 := blk_keep hb HWA.out
      clear hp hb d0 d1 d2 d3 d4 d5 d6 d7 d8 d9 d10 dd0 dd1 dd2 dd3 dd4 dd5 dd6 dd7 dd8 dd9 dd10 HGV HTK HWA HBA HT1 HT2 Ht Ht2
      obtain ⟨⟨k0, k1, k2, k3, k4, k5, k6, k7, k8, k9, k10⟩, -⟩ := cells11 hk0
      obtain ⟨⟨m0, m1, m2, m3, m4, m5, m6, m7, m8, m9, m10⟩, -⟩ := cells11 hq
      clear hk0 hq
      rcases Hless2.out with ⟨rfl, rfl, rfl⟩ | ⟨rfl, h2⟩
      · go_wp2_with fail
        go_region_law (first
          | (go_simp; go_at_call 14; refine (HK1.out _).mono ?_; rintro _ W7 ⟨rfl, hb7⟩; have HQ := Lib.hid (blk_keep hb7 HQ.out); have HA := Lib.hid (blk_keep hb7 HA.out); obtain ⟨⟨k0, k1, k2, k3, k4, k5, k6, k7, k8, k9, k10⟩, -⟩ := cells11 HA.out; obtain ⟨⟨m0, m1, m2, m3, m4, m5, m6, m7, m8, m9, m10⟩, -⟩ := cells11 HQ.out; have HB : Hid (Below w.heap.size w W7) := Lib.hid (by first | exact below_then HB.out hb7 | exact below_then (below_drew1 HB.out) hb7); clear hb7; simp only [parV_v])
          | (go_simp; go_at_call 13; refine (known_any _ (Hm.out.keep (by first | exact HB.out | exact below_drew1 HB.out))).mono ?_; rintro _ W8 ⟨rfl, hb8⟩; have HB : Hid (Below w.heap.size w W8) := Lib.hid (by first | exact below_then HB.out hb8 | exact below_then (below_drew1 HB.out) hb8); clear hb8))
        all_goals
          go_wp2_with fail
          go_ret
          exact ⟨rfl, HB.out⟩
      · obtain ⟨⟨l1, l2, l3, l4, l5, l6⟩, l7, l8⟩ := h2
        obtain ⟨-, -, -, l9, -, -⟩ := Hless.out.1
        obtain ⟨l10, l11⟩ := l4 (l9 (by simp only [defPar]; omega))
        have HS := Lib.hid (grd_sub _ _ l8)
        have i1 := Hin2.out
        clear l4 l8 l9 Hless Hless2 HK1 HK2 k0 k1 k2 k8 k9 k10 m0 m1 m8 m9 m10 i1
        rw [l3] at m3
        clear l3
        have hb1 : P1.asked = true ∧ P2.asked = true ∨ P1.asked = false := by
          cases h : P1.asked
          · exact .inr rfl
          · exact .inl ⟨rfl, l5 h⟩
        have hb2 : P1.im = false ∧ P2.im = false ∨ P1.im = true := by
          cases h : P1.im
          · exact .inl ⟨rfl, l6 h⟩
          · exact .inr rfl
        clear l5 l6
        go_upto_region 9 with fail
        go_cut [119] (fun s119 wx => s119 = .bool false ∧ wx = wc)
        case first =>
          rcases hb1 with ⟨h, h'⟩ | h
          · rw [h] at k6
            rw [h'] at m6
            clear h h'
            rcases hb2 with ⟨h, h'⟩ | h
            · rw [h] at k7
              rw [h'] at m7
              clear h h'
              go_wp2_with fail
              go_meet
              exact ⟨by simp; omega, rfl⟩
            · rw [h] at k7
              clear h m7
              go_wp2_with fail
              go_meet
              exact ⟨by simp; omega, rfl⟩
          · rw [h] at k6
            clear h m6
            rcases hb2 with ⟨h, h'⟩ | h
            · rw [h] at k7
              rw [h'] at m7
              clear h h'
              go_wp2_with fail
              go_meet
              exact ⟨by simp; omega, rfl⟩
            · rw [h] at k7
              clear h m7
              go_wp2_with fail
              go_meet
              exact ⟨by simp; omega, rfl⟩
        case rest =>
          obtain ⟨rfl, rfl⟩ := hcut
          clear k3 k4 k5 k6 k7 m2 m3 m4 m5 m6 m7 l1 l2 l7 l10 l11 hb1 hb2 HQ HA
          have HR' := Lib.hid (PairsAt.keep HR.out HB.out)
          have ho := RowAt.le HP.out
          unfold maxLen at ho
          go_wp2_with fail
          go_loopw [11, 12] (fun k i wr => ∃ a b : Nat, a ≤ o2.length ∧ b ≤ more.length ∧ k = .int .i64 a ∧ i = .int .i64 b ∧ Hid (grd ((o2.map (·.1)).drop a) ((more.map (·.1)).drop b) = []) ∧ Hid (Below wc.heap.size wc wr)) (fun _ i _ => more.length - (intOf i).toNat)
          case atStart => exact ⟨0, 0, Nat.zero_le _, Nat.zero_le _, rfl, rfl, HS, Lib.hid (Below.refl _ _)⟩
          case round =>
            obtain ⟨a, b, ha, hb, rfl, rfl, HG, HW⟩ := hrel
            by_cases hi : b < more.length
            · by_cases hk : a < o2.length
              · have hi3 : (b : Int) < more.length := by omega
                have hk3 : (a : Int) < o2.length := by omega
                obtain ⟨b1, b2, b3, hv1, hn1, hc1, -, hab1, hcell1⟩ := RowAt.form HP.out (by omega)
                injection hv1 with hv1 _ hv3
                subst hv1 hv3
                obtain ⟨b4, b5, b6, hv2, hn2, hc2, -, hab2, hcell2⟩ := RowAt.form HR'.out (by omega)
                injection hv2 with hv2 _ hv4
                subst hv2 hv4
                obtain ⟨p0, -⟩ := pairCells_at o2 a hk
                obtain ⟨p2, -⟩ := pairCells_at more b hi
                have x0 := cell_keep HW.out (hcell1 _ _ p0)
                have x1 := cell_keep HW.out (hcell2 _ _ p2)
                have hs := grd_same hk hi HG.out
                have hd := grd_other hk hi HG.out
                obtain ⟨key, hkey⟩ : ∃ x, o2[a].1 = x := ⟨_, rfl⟩
                obtain ⟨mk, hmk⟩ : ∃ x, more[b].1 = x := ⟨_, rfl⟩
                rw [hkey] at x0
                rw [hmk] at x1
                rw [hkey, hmk] at hs hd
                clear hcell1 hcell2 p0 p2 hkey hmk hn1 hn2 hab1 hab2
                by_cases he : key = mk
                · have HG2 := Lib.hid (hs he)
                  obtain rfl := he
                  clear hs hd
                  go_wp2_with fail
                  go_region
                  go_wp2_with fail
                  exact ⟨⟨a + 1, b + 1, hk, hi, by go_num, by go_num, HG2, Lib.hid (below_drew1 HW.out)⟩, by simp [intOf]; omega⟩
                · have HG2 := Lib.hid (hd he)
                  have he2 : (key.toList == mk.toList) = false := str_ne he
                  clear hs hd
                  go_wp2_with fail
                  go_region
                  go_wp2_with fail
                  exact ⟨⟨a, b + 1, ha, hi, rfl, by go_num, HG2, Lib.hid (below_drew1 HW.out)⟩, by simp [intOf]; omega⟩
              · have hk3 : ¬ (a : Int) < o2.length := by omega
                obtain rfl : a = o2.length := by omega
                have hi3 : (b : Int) < more.length := by omega
                have HB2 : Hid (Below w.heap.size w wr) := Lib.hid (below_then HB.out HW.out)
                go_wp2_with (go_at_call 13; refine (known_any _ (Hm.out.keep HB2.out)).mono ?_; rintro _ W8 ⟨rfl, hb8⟩; have HB3 := Lib.hid (below_then HB2.out hb8); clear hb8)
                go_ret
                exact ⟨rfl, HB3.out⟩
            · have hi3 : ¬ (b : Int) < more.length := by omega
              obtain rfl : a = o2.length := grd_stop ha (by omega) HG.out
              have HB2 : Hid (Below w.heap.size w wr) := Lib.hid (below_then HB.out HW.out)
              go_wp2_with (go_at_call 13; refine (known_any _ (Hm.out.keep HB2.out)).mono ?_; rintro _ W8 ⟨rfl, hb8⟩; have HB3 := Lib.hid (below_then HB2.out hb8); clear hb8)
              go_ret
              exact ⟨rfl, HB3.out⟩
end Go.Proofs.YtmehjcimohhopaaDoor
