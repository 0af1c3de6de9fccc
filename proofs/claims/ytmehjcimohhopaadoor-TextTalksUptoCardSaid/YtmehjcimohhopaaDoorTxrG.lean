/- Whatever an initiator offers: the law, walked. No statement is proved here. -/
import Derived.Test.YtmehjcimohhopaaDoorTxrF
import Derived.Test.YtmehjcimohhopaaDoorTxtW
namespace Go.Proofs.YtmehjcimohhopaaDoor
open Go.RowKit

theorem talkP_len (P : Par) (l : List Pr) : (talkP P l).1.length ≤ l.length := by
  rcases talkP_less P l with ⟨-, h, -⟩ | ⟨-, -, -, h⟩
  · rw [h]; exact Nat.zero_le _
  · simpa using h.length_le
def T5 (w : World) (P0 P1 : Par) (o1 : List Pr) (e1 : Int) (s7 s8 s9 : Value) (wx : World) : Prop :=
  ∃ q : Nat, s8 = .pointer (some ⟨q, 0, none⟩) ∧ s9 = .int .i64 e1 ∧ PairsAt (fun b => w.heap.size ≤ b) wx s7 o1 ∧ wx.heap[q]? = some (.cells (parCells P1) 32 (0, 0)) ∧ w.heap.size ≤ q ∧ Below w.heap.size w wx ∧ wx.heap[w.heap.size]? = some (.cells (parCells P0) 29 (0, 0))
def T6 (wc : World) (n : Nat) (P1 : Par) (o1 : List Pr) (e1 : Int) (s10 s11 s12 : Value) (wx : World) : Prop :=
  ∃ q : Nat, s11 = .pointer (some ⟨q, 0, none⟩) ∧ s12 = .int .i64 e1 ∧ PairsAt (fun b => n ≤ b) wx s10 o1 ∧ wx.heap[q]? = some (.cells (parCells P1) 29 (0, 0)) ∧ n ≤ q ∧ Below wc.heap.size wc wx
def T7 (wc : World) (s57 : Value) (wx : World) : Prop := s57 = .bool false ∧ Below wc.heap.size wc wx
def T9 (w : World) (q8 q11 : Nat) (P1 P2 : Par) (o2 : List Pr) (e2 : Int) (s7 s9 : Value) (wx : World) : Prop :=
  ∃ n : Nat, s9 = .int .i64 e2 ∧ q11 < n ∧ w.heap.size ≤ n ∧ PairsAt (fun b => n ≤ b) wx s7 o2 ∧ wx.heap[q8]? = some (.cells (parCells P2) 32 (0, 0)) ∧ wx.heap[q11]? = some (.cells (parCells P1) 29 (0, 0)) ∧ Below w.heap.size w wx
def T10 (w : World) (q8 q11 : Nat) (P2 : Par) (o2 : List Pr) (e2 : Int) (s7 s10 s12 : Value) (wx : World) : Prop :=
  s12 = .int .i64 e2 ∧ PairsAt (fun b => w.heap.size ≤ b) wx s7 o2 ∧ PairsAt (fun b => w.heap.size ≤ b) wx s10 o2 ∧ wx.heap[q8]? = some (.cells (parCells P2) 32 (0, 0)) ∧ wx.heap[q11]? = some (.cells (parCells P2) 29 (0, 0)) ∧ Below w.heap.size w wx
theorem set11_other {W : World} {b q : Nat} {o : Obj} (h : W.heap[b]? = some o) (hn : b ≠ q) (y0 y1 y2 y3 y4 y5 y6 y7 y8 y9 y10 : Value) :
    (((((((((((W.setCell ⟨q, 0, none⟩ y0).setCell ⟨q, 1, none⟩ y1).setCell ⟨q, 2, none⟩ y2).setCell ⟨q, 3, none⟩ y3).setCell ⟨q, 4, none⟩ y4).setCell ⟨q, 5, none⟩ y5).setCell ⟨q, 6, none⟩ y6).setCell ⟨q, 7, none⟩ y7).setCell ⟨q, 8, none⟩ y8).setCell ⟨q, 9, none⟩ y9).setCell ⟨q, 10, none⟩ y10).heap[b]? = some o :=
  set1_other (set1_other (set1_other (set1_other (set1_other (set1_other (set1_other (set1_other (set1_other (set1_other (set1_other h hn y0) hn y1) hn y2) hn y3) hn y4) hn y5) hn y6) hn y7) hn y8) hn y9) hn y10
theorem pairs_set11 {S : Nat → Prop} {W : World} {q : Nat} {v : Value} {l : List Pr} (h : PairsAt S W v l) (hn : ¬ S q) (y0 y1 y2 y3 y4 y5 y6 y7 y8 y9 y10 : Value) :
    PairsAt S (((((((((((W.setCell ⟨q, 0, none⟩ y0).setCell ⟨q, 1, none⟩ y1).setCell ⟨q, 2, none⟩ y2).setCell ⟨q, 3, none⟩ y3).setCell ⟨q, 4, none⟩ y4).setCell ⟨q, 5, none⟩ y5).setCell ⟨q, 6, none⟩ y6).setCell ⟨q, 7, none⟩ y7).setCell ⟨q, 8, none⟩ y8).setCell ⟨q, 9, none⟩ y9).setCell ⟨q, 10, none⟩ y10) v l :=
  RowAt.keepS h ((((((((((((Same.refl S W).setCell (p := ⟨q, 0, none⟩) hn y0).setCell (p := ⟨q, 1, none⟩) hn y1).setCell (p := ⟨q, 2, none⟩) hn y2).setCell (p := ⟨q, 3, none⟩) hn y3).setCell (p := ⟨q, 4, none⟩) hn y4).setCell (p := ⟨q, 5, none⟩) hn y5).setCell (p := ⟨q, 6, none⟩) hn y6).setCell (p := ⟨q, 7, none⟩) hn y7).setCell (p := ⟨q, 8, none⟩) hn y8).setCell (p := ⟨q, 9, none⟩) hn y9).setCell (p := ⟨q, 10, none⟩) hn y10)
theorem blk_ne {W : World} {a b : Nat} {x y : Array Value} (ha : W.heap[a]? = some (.cells x 32 (0, 0))) (hb : W.heap[b]? = some (.cells y 29 (0, 0))) : a ≠ b := by
  intro e
  subst e
  rw [ha] at hb
  injection hb with hb
  injection hb with _ hb _
  revert hb
  decide

set_option maxRecDepth 100000 in
set_option maxHeartbeats 20000000 in
theorem textTalks_any {S : Nat → Prop} (P0 : Par) (va vb : Value) (l more : List Pr) (w : World) (hl : PairsAt S w va l) (hb : PairsAt S w vb more) (hv : ∀ p ∈ l, p.2.size < 4294967281) (hv2 : ∀ p ∈ more, p.2.size < 4294967281) (hm : Mx w) (hin : in64 P0.bu ∧ in64 P0.fi) (h1 : l.length ≤ 100) (h2 : more.length ≤ 100) :
    Calls Tryd.prog 4 #[parV P0, va, vb] w fun e w' => e = .returned (.bool true) ∧ Below w.heap.size w w' := by
  obtain ⟨A, cA, rfl⟩ := hl.slice
  obtain ⟨B, cB, rfl⟩ := hb.slice
  have h1' : ¬ (100 : Int) < l.length := by omega
  have h2' : ¬ (100 : Int) < more.length := by omega
  have hin1 := talkP_in P0 l hin
  have hlen1 := talkP_len P0 l
  have hX1 := fun (v : Value) (T : Nat → Prop) (W : World) (hp : PairsAt T W v l) (hb : Below w.heap.size w W) => talk_any P0 v l W hp (by omega) hv (hm.keep hb) hin
  have hY1 := fun (v : Value) (T : Nat → Prop) (W : World) (hp : PairsAt T W v l) => ytalk_any P0 v l W hp (by omega) hv hin
  obtain ⟨⟨o1, P1, e1⟩, ht⟩ : ∃ r, talkP P0 l = r := ⟨_, rfl⟩
  rw [ht] at hin1 hlen1 hX1 hY1
  simp only at hin1 hlen1
  have hlen2 := talkP_len P1 more
  have hX2 := fun (v : Value) (T : Nat → Prop) (W : World) (hp : PairsAt T W v more) (hb : Below w.heap.size w W) => talk_any P1 v more W hp (by omega) hv2 (hm.keep hb) hin1
  have hY2 := fun (v : Value) (T : Nat → Prop) (W : World) (hp : PairsAt T W v more) => ytalk_any P1 v more W hp (by omega) hv2 hin1
  obtain ⟨⟨o2, P2, e2⟩, ht2⟩ : ∃ r, talkP P1 more = r := ⟨_, rfl⟩
  rw [ht2] at hlen2 hX2 hY2
  simp only at hlen2
  have HL := Lib.hid hl
  have HR := Lib.hid hb
  have HX1 := Lib.hid hX1
  have HY1 := Lib.hid hY1
  have HX2 := Lib.hid hX2
  have HY2 := Lib.hid hY2
  have HN := Lib.hid (And.intro hlen1 (And.intro hlen2 (And.intro h1 h2)))
  have Hm := Lib.hid hm
  have hbx := box_below w (.cells (parCells P0) 29)
  have HB : Hid (Below w.heap.size w (w.alloc (.cells (parCells P0) 29))) := Lib.hid hbx
  have HX : Hid ((w.alloc (.cells (parCells P0) 29)).heap[w.heap.size]? = some (.cells (parCells P0) 29 (0, 0))) := Lib.hid (blk_new _ _)
  clear hl hb hv hv2 hm hin h1 h2 hin1 hlen1 hlen2 hX1 hY1 hX2 hY2 ht ht2 hbx
  unfold parV parCells
  go_enter Tryd.func4, Tryd.ntmps4
  go_upto_region 5 with (first
    | (go_at_call 15; refine (xdefault_any _).mono ?_; rintro _ W1 ⟨rfl, hb1⟩; have HX := Lib.hid (blk_keep hb1 HX.out); have HB := Lib.hid (below_then HB.out hb1); clear hb1; simp only [parV_v])
    | (go_at_call 14; refine (xparams_any defPar _).mono ?_; rintro _ W2 ⟨rfl, hb2⟩; have HX := Lib.hid (blk_keep hb2 HX.out); have HB := Lib.hid (below_then HB.out hb2); clear hb2; simp only [parV_v])
    | (go_at_call 16; refine (ydefault_any _).mono ?_; rintro _ W3 ⟨rfl, hb3⟩; have HX := Lib.hid (blk_keep hb3 HX.out); have HB := Lib.hid (below_then HB.out hb3); clear hb3; simp only [parV_v]))
  obtain ⟨⟨k0, k1, k2, k3, k4, k5, k6, k7, k8, k9, k10⟩, -⟩ := cells11 HX.out
  go_cut [7, 8, 9] (fun s7 s8 s9 wx => T5 w P0 P1 o1 e1 s7 s8 s9 wx)
  case first =>
    go_wp2_with (first
      | (go_at_call 18; refine (xown_any P0 _).mono ?_; rintro _ W4 ⟨rfl, hb4⟩; have HX := Lib.hid (blk_keep hb4 HX.out); have HB := Lib.hid (below_then HB.out hb4); clear hb4; simp only [parV_v])
      | (go_at_call 19; refine (given_any _ l _ (HL.out.keep HB.out) (by have := HN.out; omega)).mono ?_; rintro _ W5 ⟨v5, rfl, hp5, hb5⟩; have HP5 := Lib.hid hp5; have HX := Lib.hid (blk_keep hb5 HX.out); have HB := Lib.hid (below_then HB.out hb5); clear hp5 hb5)
      | (go_at_call 17; refine (HX1.out _ _ _ HP5.out HB.out).mono ?_; rintro _ W6 ⟨v6, rfl, hp6, hb6⟩; have HP6 := Lib.hid (RowAt.mono hp6 (T := fun b => w.heap.size ≤ b) (fun _ _ h => Nat.le_trans HB.out.size h)); have HX := Lib.hid (blk_keep hb6 HX.out); have HB := Lib.hid (below_then HB.out hb6); clear hp6 hb6; simp only [parV_v]))
    go_meet
    exact ⟨_, rfl, rfl, PairsAt.keep HP6.out (box_below _ _), blk_new _ _, HB.out.size, below_alloc HB.out _, blk_alloc HX.out _⟩
  case rest =>
    rename World => WA
    obtain ⟨q8, rfl, rfl, hp7, hq8, hq8w, hbw, hxw⟩ := hcut
    obtain ⟨A7, c7, rfl⟩ := RowAt.slice hp7
    obtain ⟨⟨k0, k1, k2, k3, k4, k5, k6, k7, k8, k9, k10⟩, -⟩ := cells11 hxw
    have H5 := Lib.hid (And.intro hp7 (And.intro hq8 (And.intro hq8w hbw)))
    clear hp7 hq8 hq8w hbw hxw HX HB
    go_upto_region 6 with fail
    go_cut [10, 11, 12] (fun s10 s11 s12 wx => T6 WA WA.heap.size P1 o1 e1 s10 s11 s12 wx)
    case first =>
      go_wp2_with (go_at_call 20; refine (HY1.out _ _ _ (HL.out.keep H5.out.2.2.2)).mono ?_; rintro _ W6 ⟨v6, rfl, hp6, hb6⟩; have HP6 := Lib.hid hp6; have HB6 := Lib.hid hb6; clear hp6 hb6; simp only [parV_v])
      go_meet
      exact ⟨_, rfl, rfl, PairsAt.keep HP6.out (box_below _ _), blk_new _ _, HB6.out.size, below_alloc HB6.out _⟩
    case rest =>
      rename World => WB
      obtain ⟨q11, rfl, rfl, hp10, hq11, hq11w, hbw⟩ := hcut
      obtain ⟨A10, c10, rfl⟩ := RowAt.slice hp10
      have hne := blk_ne (blk_keep hbw H5.out.2.1) hq11
      have H6 := Lib.hid (And.intro (PairsAt.keep H5.out.1 hbw) (And.intro hp10 (And.intro (blk_keep hbw H5.out.2.1) (And.intro hq11 (And.intro H5.out.2.2.1 (And.intro (Nat.le_trans H5.out.2.2.2.size hq11w) (And.intro hne (below_then H5.out.2.2.2 hbw))))))))
      clear hp10 hq11 hq11w hbw hne k0 k1 k2 k3 k4 k5 k6 k7 k8 k9 k10 H5 HX1 HY1
      obtain ⟨⟨k0, k1, k2, k3, k4, k5, k6, k7, k8, k9, k10⟩, -⟩ := cells11 H6.out.2.2.1
      obtain ⟨⟨m0, m1, m2, m3, m4, m5, m6, m7, m8, m9, m10⟩, -⟩ := cells11 H6.out.2.2.2.1
      have HQ8 := Lib.hid H6.out.2.2.1
      have HQ11 := Lib.hid H6.out.2.2.2.1
      have HP10 := Lib.hid H6.out.2.1
      have HB : Hid (Below WB.heap.size WB WB) := Lib.hid (Below.refl _ _)
      go_upto_region 7 with fail
      go_cut [57] (fun s57 wx => T7 WB s57 wx)
      case first =>
        go_region_law (first
          | (go_simp; go_at_call 22; refine (taken_any _ o1 _ (PairsAt.keep H6.out.1 (by repeat (first | exact Below.refl _ _ | assumption | refine below_drewN ?_ _ | refine Below.drew ?_ | refine below_then ?_ (by assumption) | refine below_alloc ?_ _))) (by have := HN.out; omega)).mono ?_; rintro _ W7 ⟨v7, rfl, hp7, hb7⟩; have HP7 := Lib.hid hp7; have HQ8 := Lib.hid (blk_keep hb7 HQ8.out); have HQ11 := Lib.hid (blk_keep hb7 HQ11.out); have HP10 := Lib.hid (PairsAt.keep HP10.out (show Below WB.heap.size WB W7 from below_then (by repeat (first | exact Below.refl _ _ | assumption | refine below_drewN ?_ _ | refine Below.drew ?_ | refine below_then ?_ (by assumption) | refine below_alloc ?_ _)) hb7)); have HB : Hid (Below WB.heap.size WB W7) := Lib.hid (below_then (by repeat (first | exact Below.refl _ _ | assumption | refine below_drewN ?_ _ | refine Below.drew ?_ | refine below_then ?_ (by assumption) | refine below_alloc ?_ _)) hb7); obtain ⟨⟨k0, k1, k2, k3, k4, k5, k6, k7, k8, k9, k10⟩, -⟩ := cells11 HQ8.out; obtain ⟨⟨m0, m1, m2, m3, m4, m5, m6, m7, m8, m9, m10⟩, -⟩ := cells11 HQ11.out; clear hp7 hb7)
          | (go_simp; go_at_call 21; refine (ysame_eq _ _ o1 _ HP7.out HP10.out).mono ?_; rintro _ W8 ⟨rfl, hb8⟩; have HQ8 := Lib.hid (blk_keep hb8 HQ8.out); have HQ11 := Lib.hid (blk_keep hb8 HQ11.out); have HB : Hid (Below WB.heap.size WB W8) := Lib.hid (below_then HB.out hb8); obtain ⟨⟨k0, k1, k2, k3, k4, k5, k6, k7, k8, k9, k10⟩, -⟩ := cells11 HQ8.out; obtain ⟨⟨m0, m1, m2, m3, m4, m5, m6, m7, m8, m9, m10⟩, -⟩ := cells11 HQ11.out; clear hb8)
          | (go_simp; go_at_call 14; refine (xparams_any P1 _).mono ?_; rintro _ W9 ⟨rfl, hb9⟩; have HQ8 := Lib.hid (blk_keep hb9 HQ8.out); have HQ11 := Lib.hid (blk_keep hb9 HQ11.out); have HB : Hid (Below WB.heap.size WB W9) := Lib.hid (below_then (by first | exact HB.out | exact below_drew1 HB.out) hb9); obtain ⟨⟨k0, k1, k2, k3, k4, k5, k6, k7, k8, k9, k10⟩, -⟩ := cells11 HQ8.out; obtain ⟨⟨m0, m1, m2, m3, m4, m5, m6, m7, m8, m9, m10⟩, -⟩ := cells11 HQ11.out; clear hb9; simp only [parV_v]))
        all_goals
          go_wp2_with fail
          go_meet
          exact ⟨rfl, HB.out⟩
      case rest =>
        rename World => WC
        obtain ⟨rfl, hbw⟩ := hcut
        have HQ8 := Lib.hid (blk_keep hbw H6.out.2.2.1)
        have HQ11 := Lib.hid (blk_keep hbw H6.out.2.2.2.1)
        have H7 := Lib.hid (And.intro H6.out.2.2.2.2.1 (And.intro H6.out.2.2.2.2.2.1 (And.intro H6.out.2.2.2.2.2.2.1 (below_then H6.out.2.2.2.2.2.2.2 hbw))))
        clear hbw HP10 H6 HB k0 k1 k2 k3 k4 k5 k6 k7 k8 k9 k10 m0 m1 m2 m3 m4 m5 m6 m7 m8 m9 m10
        obtain ⟨⟨k0, k1, k2, k3, k4, k5, k6, k7, k8, k9, k10⟩, -⟩ := cells11 HQ8.out
        go_upto_region 9 with fail
        go_cut [7, 9] (fun s7 s9 wx => T9 w q8 q11 P1 P2 o2 e2 s7 s9 wx)
        case first =>
          go_region_law (first
            | (go_simp; go_at_call 19; refine (given_any _ more _ (HR.out.keep (show Below w.heap.size w _ from below_then H7.out.2.2.2 (by repeat (first | exact Below.refl _ _ | assumption | refine below_drewN ?_ _ | refine Below.drew ?_ | refine below_then ?_ (by assumption) | refine below_alloc ?_ _)))) (by have := HN.out; omega)).mono ?_; rintro _ W4 ⟨v4, rfl, hp4, hb4⟩; have HP4 := Lib.hid hp4; have HB4 : Hid (Below WC.heap.size WC W4) := Lib.hid (below_then (by repeat (first | exact Below.refl _ _ | assumption | refine below_drewN ?_ _ | refine Below.drew ?_ | refine below_then ?_ (by assumption) | refine below_alloc ?_ _)) hb4); obtain ⟨⟨k0, k1, k2, k3, k4, k5, k6, k7, k8, k9, k10⟩, -⟩ := cells11 (blk_keep HB4.out HQ8.out); clear hp4 hb4)
            | (go_simp; go_at_call 17; refine (HX2.out _ _ _ HP4.out (below_then H7.out.2.2.2 HB4.out)).mono ?_; rintro _ W5 ⟨v5, rfl, hp5, hb5⟩; have HP5 := Lib.hid hp5; have HB45 := Lib.hid hb5; obtain ⟨⟨k0, k1, k2, k3, k4, k5, k6, k7, k8, k9, k10⟩, -⟩ := cells11 (blk_keep hb5 (blk_keep HB4.out HQ8.out)); obtain ⟨f0, f1, f2, f3, f4, f5, f6, f7, f8, f9, f10⟩ := frozen11 (blk_keep hb5 (blk_keep HB4.out HQ8.out)); clear hp5 hb5; simp only [parV_v]))
          all_goals
            go_wp2_with fail
            go_meet
            have e8 := blk_keep HB45.out (blk_keep HB4.out HQ8.out)
            have e11 := blk_keep HB45.out (blk_keep HB4.out HQ11.out)
            have l8 := (Array.getElem?_eq_some_iff.1 HQ8.out).1
            have l11 := (Array.getElem?_eq_some_iff.1 HQ11.out).1
            have lW := HB4.out.size
            exact ⟨W4.heap.size, rfl, by omega, by have := H7.out.2.2.2.size; omega, pairs_set11 HP5.out (by omega) _ _ _ _ _ _ _ _ _ _ _, set11 e8 _ _ _ _ _ _ _ _ _ _ _, set11_other e11 (Ne.symm H7.out.2.2.1) _ _ _ _ _ _ _ _ _ _ _, below11 (below_then (below_then H7.out.2.2.2 HB4.out) HB45.out) H7.out.1 _ _ _ _ _ _ _ _ _ _ _⟩
        case rest =>
          rename World => WD
          obtain ⟨n, rfl, hn11, hnw, hp7, hq8, hq11, hbw⟩ := hcut
          obtain ⟨A72, c72, rfl⟩ := RowAt.slice hp7
          have H9 := Lib.hid (And.intro hp7 (And.intro hq8 (And.intro hq11 (And.intro hbw (And.intro hn11 hnw)))))
          obtain ⟨⟨m0, m1, m2, m3, m4, m5, m6, m7, m8, m9, m10⟩, -⟩ := cells11 hq11
          clear hn11 hnw hp7 hq8 hq11 hbw k0 k1 k2 k3 k4 k5 k6 k7 k8 k9 k10 HQ8 HQ11
          go_upto_region 10 with fail
          go_cut [10, 12] (fun s10 s12 wx => T10 w q8 q11 P2 o2 e2 (.slice A72 o2.length c72) s10 s12 wx)
          case first =>
            go_wp2_with (go_at_call 20; refine (HY2.out _ _ _ (HR.out.keep H9.out.2.2.2.1)).mono ?_; rintro _ W6 ⟨v6, rfl, hp6, hb6⟩; obtain ⟨f0, f1, f2, f3, f4, f5, f6, f7, f8, f9, f10⟩ := frozen11 (blk_keep hb6 H9.out.2.2.1); obtain ⟨⟨m0, m1, m2, m3, m4, m5, m6, m7, m8, m9, m10⟩, -⟩ := cells11 (blk_keep hb6 H9.out.2.2.1); have HP6 := Lib.hid hp6; have HB6 := Lib.hid hb6; clear hp6 hb6; simp only [parV_v])
            go_meet
            have l11 := (Array.getElem?_eq_some_iff.1 H9.out.2.2.1).1
            have hw6 := H9.out.2.2.2.1.size
            exact ⟨rfl, RowAt.mono (pairs_set11 (PairsAt.keep H9.out.1 HB6.out) (by have := H9.out; omega) _ _ _ _ _ _ _ _ _ _ _) (fun _ _ h => Nat.le_trans H9.out.2.2.2.2.2 h), RowAt.mono (pairs_set11 HP6.out (by omega) _ _ _ _ _ _ _ _ _ _ _) (fun _ _ h => Nat.le_trans hw6 h),
              set11_other (blk_keep HB6.out H9.out.2.1) H7.out.2.2.1 _ _ _ _ _ _ _ _ _ _ _, set11 (blk_keep HB6.out H9.out.2.2.1) _ _ _ _ _ _ _ _ _ _ _, below11 (below_then H9.out.2.2.2.1 HB6.out) H7.out.2.1 _ _ _ _ _ _ _ _ _ _ _⟩
          case rest =>
            rename World => WE
            obtain ⟨rfl, hp7, hp10, hq8, hq11, hbw⟩ := hcut
            obtain ⟨A102, c102, rfl⟩ := RowAt.slice hp10
            have HP7 := Lib.hid hp7
            have HP10 := Lib.hid hp10
            have HQ8 := Lib.hid hq8
            have HQ11 := Lib.hid hq11
            have HB0 := Lib.hid hbw
            have HB : Hid (Below WE.heap.size WE WE) := Lib.hid (Below.refl _ _)
            obtain ⟨⟨k0, k1, k2, k3, k4, k5, k6, k7, k8, k9, k10⟩, -⟩ := cells11 hq8
            obtain ⟨⟨m0, m1, m2, m3, m4, m5, m6, m7, m8, m9, m10⟩, -⟩ := cells11 hq11
            clear hp7 hp10 hq8 hq11 hbw
            go_wp2_with fail
            go_region_law (first
              | (go_simp; go_at_call 22; refine (taken_any _ o2 _ (PairsAt.keep HP7.out (by repeat (first | exact Below.refl _ _ | assumption | refine below_drewN ?_ _ | refine Below.drew ?_ | refine below_then ?_ (by assumption) | refine below_alloc ?_ _))) (by have := HN.out; omega)).mono ?_; rintro _ W7 ⟨v7, rfl, hp7, hb7⟩; have HPT := Lib.hid hp7; have HQ8 := Lib.hid (blk_keep hb7 HQ8.out); have HQ11 := Lib.hid (blk_keep hb7 HQ11.out); have HP10 := Lib.hid (PairsAt.keep HP10.out (show Below WE.heap.size WE W7 from below_then (by repeat (first | exact Below.refl _ _ | assumption | refine below_drewN ?_ _ | refine Below.drew ?_ | refine below_then ?_ (by assumption) | refine below_alloc ?_ _)) hb7)); have HB : Hid (Below WE.heap.size WE W7) := Lib.hid (below_then (by repeat (first | exact Below.refl _ _ | assumption | refine below_drewN ?_ _ | refine Below.drew ?_ | refine below_then ?_ (by assumption) | refine below_alloc ?_ _)) hb7); obtain ⟨⟨k0, k1, k2, k3, k4, k5, k6, k7, k8, k9, k10⟩, -⟩ := cells11 HQ8.out; obtain ⟨⟨m0, m1, m2, m3, m4, m5, m6, m7, m8, m9, m10⟩, -⟩ := cells11 HQ11.out; clear hp7 hb7)
              | (go_simp; go_at_call 21; refine (ysame_eq _ _ o2 _ HPT.out HP10.out).mono ?_; rintro _ W8 ⟨rfl, hb8⟩; have HQ8 := Lib.hid (blk_keep hb8 HQ8.out); have HQ11 := Lib.hid (blk_keep hb8 HQ11.out); have HB : Hid (Below WE.heap.size WE W8) := Lib.hid (below_then HB.out hb8); obtain ⟨⟨k0, k1, k2, k3, k4, k5, k6, k7, k8, k9, k10⟩, -⟩ := cells11 HQ8.out; obtain ⟨⟨m0, m1, m2, m3, m4, m5, m6, m7, m8, m9, m10⟩, -⟩ := cells11 HQ11.out; clear hb8)
              | (go_simp; go_at_call 14; refine (xparams_any P2 _).mono ?_; rintro _ W9 ⟨rfl, hb9⟩; have HQ8 := Lib.hid (blk_keep hb9 HQ8.out); have HQ11 := Lib.hid (blk_keep hb9 HQ11.out); have HB : Hid (Below WE.heap.size WE W9) := Lib.hid (below_then (by first | exact HB.out | exact below_drew1 HB.out) hb9); obtain ⟨⟨k0, k1, k2, k3, k4, k5, k6, k7, k8, k9, k10⟩, -⟩ := cells11 HQ8.out; obtain ⟨⟨m0, m1, m2, m3, m4, m5, m6, m7, m8, m9, m10⟩, -⟩ := cells11 HQ11.out; clear hb9; simp only [parV_v])
              | (go_simp; go_at_call 13; refine (known_any _ (Hm.out.keep (show Below w.heap.size w _ from below_then HB0.out (by first | exact HB.out | exact below_drew1 HB.out)))).mono ?_; rintro _ WF ⟨rfl, hbf⟩; have HB : Hid (Below WE.heap.size WE WF) := Lib.hid (below_then (by first | exact HB.out | exact below_drew1 HB.out) hbf); clear hbf))
            all_goals
              go_wp2_with fail
              go_ret
              exact ⟨rfl, below_then HB0.out HB.out⟩

theorem textTalks_long {S : Nat → Prop} (P0 : Par) (va vb : Value) (l more : List Pr) (w : World) (hl : PairsAt S w va l) (hb : PairsAt S w vb more) (hm : Mx w) (h : 100 < l.length ∨ 100 < more.length) :
    Calls Tryd.prog 4 #[parV P0, va, vb] w fun e w' => e = .returned (.bool true) ∧ Below w.heap.size w w' := by
  obtain ⟨A, cA, rfl⟩ := hl.slice
  obtain ⟨B, cB, rfl⟩ := hb.slice
  have Hm := Lib.hid hm
  have hbx := box_below w (.cells (parCells P0) 29)
  have HB : Hid (Below w.heap.size w (w.alloc (.cells (parCells P0) 29))) := Lib.hid hbx
  clear hl hb hm hbx
  unfold parV parCells
  by_cases h1 : 100 < l.length
  · have h1' : (100 : Int) < l.length := by omega
    clear h
    go_enter Tryd.func4, Tryd.ntmps4
    go_wp2_with (first
      | (go_at_call 15; refine (xdefault_any _).mono ?_; rintro _ W1 ⟨rfl, hb1⟩; have HB := Lib.hid (below_then HB.out hb1); clear hb1; simp only [parV_v])
      | (go_at_call 14; refine (xparams_any defPar _).mono ?_; rintro _ W2 ⟨rfl, hb2⟩; have HB := Lib.hid (below_then HB.out hb2); clear hb2; simp only [parV_v])
      | (go_at_call 16; refine (ydefault_any _).mono ?_; rintro _ W3 ⟨rfl, hb3⟩; have HB := Lib.hid (below_then HB.out hb3); clear hb3; simp only [parV_v])
      | (go_at_call 13; refine (known_any _ (Hm.out.keep HB.out)).mono ?_; rintro _ W6 ⟨rfl, hb6⟩; have HB := Lib.hid (below_then HB.out hb6); clear hb6))
    go_ret
    exact ⟨rfl, HB.out⟩
  · have h1' : ¬ (100 : Int) < l.length := by omega
    have h2 : (100 : Int) < more.length := by omega
    clear h
    go_enter Tryd.func4, Tryd.ntmps4
    go_wp2_with (first
      | (go_at_call 15; refine (xdefault_any _).mono ?_; rintro _ W1 ⟨rfl, hb1⟩; have HB := Lib.hid (below_then HB.out hb1); clear hb1; simp only [parV_v])
      | (go_at_call 14; refine (xparams_any defPar _).mono ?_; rintro _ W2 ⟨rfl, hb2⟩; have HB := Lib.hid (below_then HB.out hb2); clear hb2; simp only [parV_v])
      | (go_at_call 16; refine (ydefault_any _).mono ?_; rintro _ W3 ⟨rfl, hb3⟩; have HB := Lib.hid (below_then HB.out hb3); clear hb3; simp only [parV_v])
      | (go_at_call 13; refine (known_any _ (Hm.out.keep HB.out)).mono ?_; rintro _ W6 ⟨rfl, hb6⟩; have HB := Lib.hid (below_then HB.out hb6); clear hb6))
    go_ret
    exact ⟨rfl, HB.out⟩
theorem textTalks_all {S : Nat → Prop} (P0 : Par) (va vb : Value) (l more : List Pr) (w : World) (hl : PairsAt S w va l) (hb : PairsAt S w vb more) (hv : ∀ p ∈ l, p.2.size < 4294967281) (hv2 : ∀ p ∈ more, p.2.size < 4294967281) (hm : Mx w) (hin : in64 P0.bu ∧ in64 P0.fi) :
    Calls Tryd.prog 4 #[parV P0, va, vb] w fun e w' => e = .returned (.bool true) ∧ Below w.heap.size w w' := by
  by_cases h : 100 < l.length ∨ 100 < more.length
  · exact textTalks_long P0 va vb l more w hl hb hm h
  · exact textTalks_any P0 va vb l more w hl hb hv hv2 hm hin (by omega) (by omega)
end Go.Proofs.YtmehjcimohhopaaDoor
