/- 'Join'. No statement is proved here. -/
import Derived.Test.YtoaoldhajpbenaaEntN
import Derived.Test.YtoaoldhajpbenaaEntH
import Derived.Deep.DeepCutAuto
import Derived.Deep.CutBlock
namespace Go.Proofs.Ytoaoldhajpbenaa
open Go.RowKit
attribute [local go_sem ↓] Go.wp_at_zero Go.wp_at_succ

theorem upto_ok {S : Nat → Prop} (p : Value) (g : Lg) (n : Int) (w : World) (h : LogAt S w p g.parts) (hg : g.Good) (hn1 : g.a ≤ n) (hn2 : n ≤ g.top) :
    Calls Try.prog 24 #[p, .int .i64 n] w fun e w' => ∃ q, e = .returned (.tuple #[q, .int .i64 0]) ∧ LogAt (fun b => S b ∨ w.heap.size ≤ b) w' q (g.upto n).parts ∧ Below w.heap.size w w' := by
  by_cases hn : n = g.a
  · subst hn
    refine (upto_floor p g w h hg).mono ?_
    rintro e w' ⟨q, rfl, hL, hb⟩
    refine ⟨q, rfl, ?_, hb⟩
    rw [Lg.upto_floor]
    exact hL.mono fun b _ h => .inr h
  · refine (upto_run p g n w h hg (by omega) hn2).mono ?_
    rintro e w' ⟨q, j, hj, h1, h2, rfl, hL, hb⟩
    refine ⟨q, rfl, ?_, hb⟩
    rw [← hg.cutAt hj h1 h2]
    exact hL

theorem Ents.tail {S : Nat → Prop} {w : World} {b o c : Nat} {l : List Ent} (h : Ents S w (.slice (some ⟨b, o, none⟩) l.length c) l) (k : Nat) (hk : k ≤ l.length) (hc : l.length ≤ c) (hc' : c ≤ maxLen) :
    Ents S w (.slice (some ⟨b, o + k * 3, none⟩) (l.length - k) (c - k)) (l.drop k) := by
  obtain ⟨cs, hr, he⟩ := h
  have h1 := hr.cut k (l.length - k) (c - k) (by omega) (by omega) (by omega)
  have e : ((cs.drop (k * 3)).take ((l.length - k) * 3)) = cs.drop (k * 3) := by
    apply List.take_of_length_le
    have := hr.1
    simp; omega
  rw [e] at h1
  refine ⟨cs.drop (k * 3), ?_, he.drop k⟩
  rw [List.length_drop]
  exact h1

theorem Ents.next {S : Nat → Prop} {w : World} {b o c : Nat} {e : Ent} {l : List Ent} (h : Ents S w (.slice (some ⟨b, o, none⟩) (e :: l).length c) (e :: l)) :
    Ents S w (.slice (if c = 1 then some ⟨b, o, none⟩ else some ⟨b, o + 3, none⟩) l.length (c - 1)) l := by
  obtain ⟨cs, hr, he⟩ := h
  obtain ⟨b', o', c', hv, hn, hc, hS, hlt, hcell⟩ := hr.form (by simp)
  injection hv with hv _ hv2
  injection hv with hv
  injection hv with e1 e2 _
  subst e1 e2 hv2
  by_cases h1 : c = 1
  · rw [if_pos h1]
    have : l = [] := by
      cases l with
      | nil => rfl
      | cons x xs => simp at hn; omega
    subst this h1
    exact ⟨[], ⟨by simp, .inr ⟨b, o, 0, rfl, Nat.le_refl _, Nat.zero_le _, hS, hlt, fun i u hu => by simp at hu⟩⟩, rfl⟩
  · rw [if_neg h1]
    have := Ents.tail ⟨cs, hr, he⟩ 1 (by simp) hn hc
    simpa using this

theorem below_five {w W : World} (h : Below w.heap.size w W) (x y z u v : Value) :
    Below w.heap.size w (((((W.setCell ⟨w.heap.size, 0, none⟩ x).setCell ⟨w.heap.size, 1, none⟩ y).setCell ⟨w.heap.size, 2, none⟩ z).setCell ⟨w.heap.size, 3, none⟩ u).setCell ⟨w.heap.size, 4, none⟩ v) :=
  ((((h.setCell (by simp) _).setCell (by simp) _).setCell (by simp) _).setCell (by simp) _).setCell (by simp) _

/-- What 'Join' answers. -/
def JoinPost (S : Nat → Prop) (g : Lg) (x : Jn) (e : Ending) (w' : World) : Prop :=
  ∃ q, e = .returned (.agg #[q, .bool x.yes, .int .i64 x.fin, .int .i64 x.from_, .int .i64 x.back]) ∧ (match x.log with | none => q = .pointer none | some es => LogAt S w' q (Lg.of g.a g.t g.m es).parts)

set_option maxRecDepth 100000 in
set_option maxHeartbeats 2000000 in
theorem join_own {S : Nat → Prop} (p : Value) (g : Lg) (at_ term : Int) (lv : Value) (l : List Ent) (w : World) (hS : ∀ b, S b → b < w.heap.size) (h : LogAt S w p g.parts) (hg : g.Good) (hl : Ents S w lv l) (h64 : in64 at_) (hll : l.length ≤ 140737488355328) :
    Calls Try.prog 17 #[p, .int .i64 at_, .int .i64 term, lv] w fun e w' => JoinPost (fun b => S b ∨ w.heap.size ≤ b) g (g.join at_ term l) e w' ∧ Below w.heap.size w w' := by
  obtain ⟨A, lc, rfl⟩ := hl.slice
  have Hl := Lib.hid hl
  have Hp := Lib.hid h
  obtain ⟨b, sv, vs, rfl, -⟩ := h
  have b1 := hg.a0
  have b2 := hg.a1
  have b3 := hg.len
  unfold in64 at h64
  clear hl
  obtain ⟨sk, hsk⟩ : ∃ sk, wrap64 (g.a - at_) = sk := ⟨_, rfl⟩
  go_enter Try.func17, Try.ntmps17
  go_upto_block 0 with (go_at_call 48; refine (ground_any _ g _ (by exact Hp.out.keep (box_below w _))).mono ?_; rintro e w1 ⟨rfl, hb⟩)
  obtain ⟨w0, hw0⟩ : ∃ w0, w.alloc (.cells #[.pointer none, .bool false, .int .i64 0, .int .i64 0, .int .i64 0] 40) = w0 := ⟨_, rfl⟩
  have hbk : w0.heap[w.heap.size]? = some (.cells #[.pointer none, .bool false, .int .i64 0, .int .i64 0, .int .i64 0] 40 (0, 0)) := by rw [← hw0]; exact blk_new w _
  have hbw : Below w.heap.size w w0 := by rw [← hw0]; exact box_below w _
  have hsz : w0.heap.size = w.heap.size + 1 := by rw [← hw0]; simp
  rw [hw0] at hb
  rw [hsk]
  have Hsk := Lib.hid hsk
  clear hsk
  have Hw0 := Lib.hid hw0
  clear hw0
  have Hbk := Lib.hid hbk
  have Hsz := Lib.hid hsz
  clear hbk hsz
  go_cut [1, 3] (fun s1 s3 wx => ∃ (a0 : Int) (l0 : List Ent) (A0 : Option Addr) (c0 : Nat), s1 = .int .i64 a0 ∧ s3 = .slice A0 l0.length c0 ∧ Ents S w (.slice A0 l0.length c0) l0 ∧ g.a ≤ a0 ∧ a0 ≤ g.top ∧ g.join at_ term l = g.joinGo a0 l0 ∧ l0.length ≤ l.length ∧ Below w0.heap.size w0 wx)
  case first =>
    have Ht := Lib.hid fun n => term_any _ g n w1 (Hp.out.keep (below_then hbw hb)) hg
    by_cases c1 : g.a ≤ at_
    · by_cases hT : g.termAt at_ < 0 ∨ g.termAt at_ ≠ term
      · have hJ : g.join at_ term l = ⟨none, false, 0, 0, g.back at_⟩ := by unfold Lg.join; rw [if_pos c1, if_pos hT]
        have Hb := Lib.hid fun w2 (hb2 : Below w1.heap.size w1 w2) => back_any _ g at_ w2 (Hp.out.keep (below_then (below_then hbw hb) hb2)) hg
        have HJ := Lib.hid hJ
        clear hJ
        have hT' : g.termAt at_ < 0 ∨ (0 ≤ g.termAt at_ ∧ g.termAt at_ ≠ term) := by omega
        clear hT
        have hT3 : 0 ≤ g.termAt at_ → (g.termAt at_ != term) = true := fun h => by simp; omega
        rcases hT' with hT | ⟨hT1, hT2⟩
        rotate_left
        have hT4 := hT3 hT1
        rotate_left
        all_goals
          go_wp2_with (first | (go_at_call 14; refine (Ht.out _).mono ?_; rintro e w2 ⟨rfl, hb2⟩) | (go_at_call 49; refine (Hb.out _ hb2).mono ?_; rintro e w3 ⟨rfl, hb3⟩; obtain ⟨k0, k1, k2, k3, k4, f0, f1, f2, f3, f4⟩ := cells5 (blk_keep hb3 (blk_keep hb2 (blk_keep hb Hbk.out)))))
          refine bodyPost_ret (v := .agg #[.pointer none, .bool false, .int .i64 0, .int .i64 0, .int .i64 (g.back at_)]) (by simp [results, Try.results17, go_sem, k0, k1, k2, k3, k4]) rfl ⟨⟨_, by rw [HJ.out], by rw [HJ.out]⟩, ?_⟩
          exact below_five (below_then (below_then (below_then hbw hb) hb2) hb3) _ _ _ _ _
      · have hT1 : 0 ≤ g.termAt at_ := by omega
        have hT2 : g.termAt at_ = term := by omega
        have hin := Lg.termAt_in hT1
        have hJ : g.join at_ term l = g.joinGo at_ l := by unfold Lg.join; rw [if_pos c1, if_neg hT]
        have HJ := Lib.hid hJ
        clear hJ
        clear hT
        subst hT2
        go_wp2_with (go_at_call 14; refine (Ht.out _).mono ?_; rintro e w2 ⟨rfl, hb2⟩)
        go_meet
        exact ⟨at_, l, A, lc, rfl, rfl, Hl.out, c1, hin.2, HJ.out, Nat.le_refl _, below_then hb hb2⟩
    · by_cases c3 : (l.length : Int) ≤ g.a - at_
      · have hJ : g.join at_ term l = ⟨none, false, 0, 0, g.a⟩ := by unfold Lg.join; rw [if_neg c1, if_pos c3]
        have HJ := Lib.hid hJ
        clear hJ
        obtain ⟨k0, k1, k2, k3, k4, f0, f1, f2, f3, f4⟩ := cells5 (blk_keep hb Hbk.out)
        have hsk2 : sk < 0 ∨ (0 ≤ sk ∧ (l.length : Int) ≤ sk) := by have := Hsk.out; unfold wrap64 at this; omega
        rcases hsk2 with hsk2 | ⟨hsk2, hsk3⟩
        all_goals
          go_wp2_with fail
          refine bodyPost_ret (v := .agg #[.pointer none, .bool false, .int .i64 0, .int .i64 0, .int .i64 (g.a)]) (by simp [results, Try.results17, go_sem, k0, k1, k2, k3, k4]) rfl ⟨⟨_, by rw [HJ.out], by rw [HJ.out]⟩, ?_⟩
          exact below_five (below_then hbw hb) _ _ _ _ _
      · have hsk' : sk = g.a - at_ := by have := Hsk.out; unfold wrap64 at this; omega
        have hJ : g.join at_ term l = g.joinGo g.a (l.drop sk.toNat) := by
          unfold Lg.join; rw [if_neg c1, if_neg c3, hsk']
        have HJ := Lib.hid hJ
        have hsk0 : 0 ≤ sk := by omega
        obtain ⟨cs, hrow, hcs⟩ := Hl.out
        obtain ⟨rb, ro, rc, he, hrn, hrc, -⟩ := hrow.form (by omega)
        injection he with he1 _ he2
        subst he1 he2
        have d1 : sk < (l.length : Int) := by omega
        have d2 : (l.length : Int) ≤ (lc : Int) := by omega
        have d3 : sk.toNat ≤ l.length := by omega
        have d4 : l.length ≤ lc := by omega
        clear hJ hsk' hrow
        go_wp2_with fail
        go_region
        all_goals
          go_wp2_with fail
          go_meet
          refine ⟨g.a, l.drop sk.toNat, some ⟨rb, ro + sk.toNat * 3, none⟩, lc - sk.toNat, rfl, ?_, ?_, Int.le_refl _, ?_, HJ.out, ?_, below_drewN hb 1⟩
          · simp
          · rw [List.length_drop]; exact Hl.out.tail sk.toNat d3 d4 hrc
          · unfold Lg.top; omega
          · simp
  case rest =>
    obtain ⟨a0, l0, A0, c0, rfl, rfl, hl0, ha1, ha2, hj, hle, hbx⟩ := hcut
    have HJ := Lib.hid hj
    have Hl0 := Lib.hid hl0
    clear hj hl0
    have htop : g.top ≤ 1099511631872 := by unfold Lg.top; omega
    go_upto_block 1 with fail
    go_cut [1, 3] (fun s1 s3 wy => ∃ (k : Nat) (l1 : List Ent) (A1 : Option Addr) (c1 : Nat), s1 = .int .i64 (a0 + k) ∧ s3 = .slice A1 l1.length c1 ∧ Ents S w (.slice A1 l1.length c1) l1 ∧ l0.drop k = l1 ∧ k ≤ l0.length ∧ a0 + k ≤ g.top ∧ skipN g a0 l0 = k ∧ Below w0.heap.size w0 wy)
    case first =>
      go_wp2_with fail
      go_loopw [1, 3] (fun s1 s3 wr => ∃ (k : Nat) (l1 : List Ent) (A1 : Option Addr) (c1 : Nat), s1 = .int .i64 (a0 + k) ∧ s3 = .slice A1 l1.length c1 ∧ Ents S w (.slice A1 l1.length c1) l1 ∧ l0.drop k = l1 ∧ k ≤ l0.length ∧ a0 + k ≤ g.top ∧ skipN g a0 l0 = k + skipN g (a0 + k) l1 ∧ Below w0.heap.size w0 wr)
        (fun s1 _ _ => l0.length - (intOf s1 - a0).toNat)
      case atStart => exact ⟨0, l0, A0, c0, by simp, rfl, Hl0.out, by simp, by omega, by omega, by simp, hbx⟩
      case round =>
        obtain ⟨k, l1, A1, c1, rfl, rfl, hl1, hd, hk, hkt, hsn, hbr⟩ := hrel
        have Hd := Lib.hid hd
        have Hsn := Lib.hid hsn
        have Hl1 := Lib.hid hl1
        clear hd hsn hl1
        cases l1 with
        | nil =>
          have hz : ([] : List Ent).length = 0 := rfl
          rw [hz]
          go_wp2_with fail
          go_quiet (fail)
          go_wp2_with fail
          go_meet
          exact ⟨k, [], A1, c1, rfl, rfl, Hl1.out, Hd.out, hk, hkt, by rw [Hsn.out]; simp [skipN], below_drewN hbr nq⟩
        | cons e l2 =>
          obtain ⟨cs, hrow, hec⟩ := Hl1.out
          obtain ⟨rb, ro, rc, he0, hrn, hrc, -, hrb, hrcell⟩ := hrow.form (by simp)
          injection he0 with he1 _ he2
          subst he1 he2
          obtain ⟨cv, hc0, hc1, hc2, -⟩ := hec.at 0 (by simp)
          have hterm : wr.cell? ⟨rb, ro + 1, none⟩ = some (.int .i64 e.term) := by
            have := cell_keep (below_then hbw hbr) (hrcell _ _ hc1)
            simpa using this
          obtain ⟨n1, hn1, hn2⟩ : ∃ n1, (e :: l2).length = n1 ∧ l2.length + 1 = n1 := ⟨_, rfl, rfl⟩
          rw [hn1]
          have i0 : 0 < n1 := by omega
          have i1 : (0 : Int) < (n1 : Int) := by omega
          have i2 : (1 : Int) ≤ (n1 : Int) := by omega
          have i3 : (n1 : Int) ≤ (c1 : Int) := by simp at hrn; omega
          have Hrc := Lib.hid hrc
          have hkl : k < l0.length := by
            have := congrArg List.length Hd.out
            simp at this; omega
          have Hn1 := Lib.hid hn1
          have Hn2 := Lib.hid hn2
          clear hc0 hc1 hc2 hrcell hec hrow hn1 hn2 hrc hrn
          by_cases ht : 0 ≤ e.term
          · obtain ⟨tt, htt⟩ : ∃ tt, g.termAt (a0 + k + 1) = tt := ⟨_, rfl⟩
            have Ht := Lib.hid fun W (hb : Below w0.heap.size w0 W) => htt ▸ term_any _ g (a0 + k + 1) W (Hp.out.keep (below_then hbw hb)) hg
            have Htt := Lib.hid htt
            clear htt
            have e1 : IntKind.i64.wrap (a0 + ↑k + 1) = a0 + ↑k + 1 := IntWalk.i64_in _ (by omega)
            by_cases heq : tt = e.term
            · subst heq
              go_wp2_with fail
              go_region_held3 (fun w' => w'.cell? ⟨rb, ro + 1, none⟩ = some (.int .i64 e.term)) (go_keep) ((go_at_call 14; refine (Ht.out _ (by exact hbr.drew)).mono ?_; rintro _ w3 ⟨rfl, hb3⟩; have z0 : w3.cell? ⟨rb, ro + 1, none⟩ = some (.int .i64 e.term) := cell_keep hb3 hterm))
              go_wp2_with fail
              go_region
              all_goals
                go_wp2_with fail
                go_roundw
                case rel =>
                  have hl2 := Hl1.out
                  have hn : n1 - 1 = l2.length := by have := Hn2.out; omega
                  refine ⟨k + 1, l2, if c1 = 1 then some ⟨rb, ro, none⟩ else some ⟨rb, ro + 3, none⟩, c1 - 1, ?_, ?_, ?_, ?_, hkl, ?_, ?_, ?_⟩
                  · simp; omega
                  · rw [← hn]
                  · exact hl2.next
                  · rw [← List.drop_drop, Hd.out]; rfl
                  · have := Lg.termAt_in (g := g) (n := a0 + k + 1) (by rw [Htt.out]; exact ht)
                    omega
                  · rw [Hsn.out]
                    simp only [skipN]
                    rw [if_pos ⟨ht, Htt.out⟩]
                    have : a0 + ((k + 1 : Nat) : Int) = a0 + k + 1 := by omega
                    rw [this]; omega
                  · exact below_drewN (below_then (below_drewN hbr 1) hb3) 1
                case measure => simp [intOf]; omega
            · have hbe : (tt == e.term) = false := by simpa using heq
              go_wp2_with fail
              go_region_held3 (fun w' => w'.cell? ⟨rb, ro + 1, none⟩ = some (.int .i64 e.term)) (go_keep) ((go_at_call 14; refine (Ht.out _ (by exact hbr.drew)).mono ?_; rintro _ w3 ⟨rfl, hb3⟩; have z0 : w3.cell? ⟨rb, ro + 1, none⟩ = some (.int .i64 e.term) := cell_keep hb3 hterm))
              all_goals
                go_wp2_with fail
                go_meet
                refine ⟨k, e :: l2, some ⟨rb, ro, none⟩, c1, rfl, by rw [Hn1.out], Hl1.out, Hd.out, hk, hkt, ?_, below_then (below_drewN hbr 1) hb3⟩
                rw [Hsn.out]
                simp only [skipN]
                rw [if_neg (by rw [Htt.out]; omega)]; rfl
          · have ht' : e.term < 0 := by omega
            have ht2 : decide (0 ≤ e.term) = false := by simp; omega
            go_wp2_with fail
            go_quiet (fail)
            go_wp2_with fail
            go_meet
            refine ⟨k, e :: l2, some ⟨rb, ro, none⟩, c1, rfl, by rw [Hn1.out], Hl1.out, Hd.out, hk, hkt, ?_, below_drewN hbr nq⟩
            rw [Hsn.out]
            simp only [skipN]
            rw [if_neg (by omega)]; rfl
    case rest =>
      obtain ⟨k, l1, A1, c1, rfl, rfl, hl1, hd, hk, hkt, hsn, hby⟩ := hcut
      have hlen : l1.length = l0.length - k := by rw [← hd]; simp
      have Hl1 := Lib.hid hl1
      have hG : g.joinGo a0 l0 = if l0.length ≤ k then ⟨some g.ents, true, a0 + l0.length, 0, 0⟩
          else if okSeq (g.termAt (a0 + k)) l1 = true ∧ a0 + l0.length - g.a ≤ 4096 then
            ⟨some (g.ents.take (a0 + k - g.a).toNat ++ l1), true, a0 + l0.length, a0 + k + 1, 0⟩
          else ⟨none, false, 0, 0, a0 + k⟩ := by
        unfold Lg.joinGo; simp only [hsn, hd]
      have HG := Lib.hid hG
      have Hd := Lib.hid hd
      clear hl1 hG hd hsn
      obtain ⟨n1, hn1⟩ : ∃ n1, l1.length = n1 := ⟨_, rfl⟩
      rw [hn1]
      rw [hn1] at hlen
      have Hn1 := Lib.hid hn1
      clear hn1
      have Hg := Lib.hid hg
      obtain ⟨k0, k1, k2, k3, k4, f0, f1, f2, f3, f4⟩ := cells5 (blk_keep hby Hbk.out)
      by_cases hz : n1 = 0
      · have hlk : l0.length ≤ k := by omega
        clear hlen
        subst hz
        have hx : g.join at_ term l = ⟨some g.ents, true, a0 + l0.length, 0, 0⟩ := by rw [HJ.out, HG.out, if_pos hlk]
        have HX := Lib.hid hx
        clear hx
        go_wp2_with fail
        refine bodyPost_ret (v := .agg #[.pointer (some ⟨b, 0, none⟩), .bool true, .int .i64 (a0 + l0.length), .int .i64 0, .int .i64 0]) (by simp [results, Try.results17, go_sem, k0, k1, k2, k3, k4]) rfl ⟨⟨_, by rw [HX.out], ?_⟩, ?_⟩
        · rw [HX.out]
          show LogAt _ _ _ (Lg.of g.a g.t g.m g.ents).parts
          rw [← Hg.out.eq_of]
          exact ((Hp.out.keep (below_five (below_then hbw hby) _ _ _ _ _))).mono fun b _ h => .inl h
        · exact below_five (below_then hbw hby) _ _ _ _ _
      · have hk1 : ¬ l0.length ≤ k := by omega
        have Hu := Lib.hid (upto_ok _ g (a0 + k) wc (Hp.out.keep (below_then hbw hby)) hg (by omega) hkt)
        obtain ⟨u1, u2, u3, u4, u5, u6⟩ := hg.upto (a0 + k)
        rw [Lg.Good.uptoTerm (by omega) hkt] at u3
        have ul : (g.upto (a0 + k)).ents.length = (a0 + k - g.a).toNat := by
          rw [u2]; unfold Lg.top at hkt; simp; omega
        have i1 : (0 : Int) < (n1 : Int) := by omega
        have i2 : 0 < n1 := by omega
        have Hlen := Lib.hid hlen
        clear hlen
        have U1 := Lib.hid u1
        have U3 := Lib.hid u3
        have Ul := Lib.hid ul
        clear u1 u2 u3 u4 u5 u6 ul
        go_wp2_with (go_at_call 24; refine Hu.out.mono ?_; rintro _ w3 ⟨q, rfl, hq, hb3⟩; obtain ⟨qb, qs, qv, rfl, hqr⟩ := id hq; have Hq := Lib.hid hq; clear hq hqr)
        have hEl := Lib.hid (((Hl1.out.keep (below_then (below_then hbw hby) hb3)).mono fun b _ h => Or.inl h : Ents (fun b => S b ∨ wc.heap.size ≤ b) w3 (.slice A1 l1.length c1) l1))
        rw [Hn1.out] at hEl
        have hwc := (below_then hbw hby).size
        have hfit : a0 + l0.length - g.a ≤ 4096 → (g.upto (a0 + k)).ents.length + l1.length ≤ 4096 := fun h => by rw [Ul.out, Hn1.out]; have := Hlen.out; omega
        by_cases hroom : a0 + l0.length - g.a ≤ 4096
        · have hfit := hfit hroom
          refine (with_room (S := fun b => S b ∨ wc.heap.size ≤ b) (.pointer (some ⟨qb, 0, none⟩)) (g.upto (a0 + k)) (.slice A1 n1 c1) l1 w3 Hq.out U1.out hEl.out hfit).mono ?_
          rintro _ w4 ⟨hw | ⟨hw, rfl⟩, hb4⟩
          · obtain ⟨hok, q', rfl, hq'⟩ := hw
            rw [U3.out] at hok
            have hx : g.join at_ term l = ⟨some (g.ents.take (a0 + k - g.a).toNat ++ l1), true, a0 + l0.length, a0 + k + 1, 0⟩ := by rw [HJ.out, HG.out, if_neg hk1, if_pos ⟨hok, hroom⟩]
            have HX := Lib.hid hx
            obtain ⟨qb', qs', qv', rfl, hqr'⟩ := id hq'
            have Hq' := Lib.hid hq'
            obtain ⟨k0, k1, k2, k3, k4, f0, f1, f2, f3, f4⟩ := cells5 (blk_keep hb4 (blk_keep hb3 (blk_keep hby Hbk.out)))
            clear hx hok hq' hqr'
            go_wp2_with fail
            refine bodyPost_ret (v := .agg #[.pointer (some ⟨qb', 0, none⟩), .bool true, .int .i64 (a0 + l0.length), .int .i64 (a0 + k + 1), .int .i64 0]) (by simp [results, Try.results17, go_sem, k0, k1, k2, k3, k4]) rfl ⟨⟨_, by rw [HX.out], ?_⟩, ?_⟩
            · rw [HX.out]
              show LogAt _ _ _ (Lg.of g.a g.t g.m _).parts
              rw [← Lg.of_adds]
              have hsz := Hsz.out
              have hy := hby.size
              have h3 := hb3.size
              have hn : ¬ ((S w.heap.size ∨ wc.heap.size ≤ w.heap.size) ∨ w3.heap.size ≤ w.heap.size) := by
                rintro ((h | h) | h)
                · have := hS _ h; omega
                · omega
                · omega
              have hsm := ((((((Same.refl (fun b => (S b ∨ wc.heap.size ≤ b) ∨ w3.heap.size ≤ b) w4).setCell (p := ⟨w.heap.size, 0, none⟩) hn (.pointer (some ⟨qb', 0, none⟩))).setCell (p := ⟨w.heap.size, 1, none⟩) hn (.bool true)).setCell (p := ⟨w.heap.size, 2, none⟩) hn (.int .i64 (a0 + l0.length))).setCell (p := ⟨w.heap.size, 3, none⟩) hn (.int .i64 (a0 + k + 1))).setCell (p := ⟨w.heap.size, 4, none⟩) hn (.int .i64 0))
              exact (Hq'.out.keepS hsm).mono fun b _ h => by
                rcases h with (h | h) | h
                · exact .inl h
                · exact .inr (by omega)
                · exact .inr (by omega)
            · exact below_five (below_then (below_then (below_then hbw hby) hb3) hb4) _ _ _ _ _
          · rw [U3.out] at hw
            have hx : g.join at_ term l = ⟨none, false, 0, 0, a0 + k⟩ := by rw [HJ.out, HG.out, if_neg hk1, if_neg (by rw [hw]; simp)]
            have HX := Lib.hid hx
            obtain ⟨k0, k1, k2, k3, k4, f0, f1, f2, f3, f4⟩ := cells5 (blk_keep hb4 (blk_keep hb3 (blk_keep hby Hbk.out)))
            clear hx hw
            go_wp2_with fail
            refine bodyPost_ret (v := .agg #[.pointer none, .bool false, .int .i64 0, .int .i64 0, .int .i64 (a0 + k)]) (by simp [results, Try.results17, go_sem, k0, k1, k2, k3, k4]) rfl ⟨⟨_, by rw [HX.out], by rw [HX.out]⟩, ?_⟩
            exact below_five (below_then (below_then (below_then hbw hby) hb3) hb4) _ _ _ _ _
        · refine (with_full (S := fun b => S b ∨ wc.heap.size ≤ b) (.pointer (some ⟨qb, 0, none⟩)) (g.upto (a0 + k)) A1 n1 c1 w3 Hq.out U1.out (by rw [Ul.out]; have := Hlen.out; omega) (by have := Hlen.out; omega)).mono ?_
          rintro _ w4 ⟨rfl, hb4⟩
          have hx : g.join at_ term l = ⟨none, false, 0, 0, a0 + k⟩ := by rw [HJ.out, HG.out, if_neg hk1, if_neg (fun h => hroom h.2)]
          have HX := Lib.hid hx
          obtain ⟨k0, k1, k2, k3, k4, f0, f1, f2, f3, f4⟩ := cells5 (blk_keep hb4 (blk_keep hb3 (blk_keep hby Hbk.out)))
          clear hx
          go_wp2_with fail
          refine bodyPost_ret (v := .agg #[.pointer none, .bool false, .int .i64 0, .int .i64 0, .int .i64 (a0 + k)]) (by simp [results, Try.results17, go_sem, k0, k1, k2, k3, k4]) rfl ⟨⟨_, by rw [HX.out], by rw [HX.out]⟩, ?_⟩
          exact below_five (below_then (below_then (below_then hbw hby) hb3) hb4) _ _ _ _ _
theorem join_any {S : Nat → Prop} (p : Value) (g : Lg) (at_ term : Int) (lv : Value) (l : List Ent) (w : World) (h : LogAt S w p g.parts) (hg : g.Good) (hl : Ents S w lv l) (h64 : in64 at_) (hll : l.length ≤ 140737488355328) :
    Calls Try.prog 17 #[p, .int .i64 at_, .int .i64 term, lv] w fun e w' => JoinPost (fun b => S b ∨ w.heap.size ≤ b) g (g.join at_ term l) e w' ∧ Below w.heap.size w w' := by
  refine (join_own (S := fun b => S b ∧ b < w.heap.size) p g at_ term lv l w (fun b h => h.2) (h.mono fun b h1 h2 => ⟨h2, h1⟩) hg (hl.mono fun b h1 h2 => ⟨h2, h1⟩) h64 hll).mono ?_
  rintro e w' ⟨⟨q, he, hq⟩, hb⟩
  refine ⟨⟨q, he, ?_⟩, hb⟩
  cases hx : (g.join at_ term l).log with
  | none => rw [hx] at hq; exact hq
  | some es =>
    rw [hx] at hq
    exact hq.mono fun b _ h => h.imp (·.1) id
end Go.Proofs.Ytoaoldhajpbenaa
