/- Pairs as bytes, there and back: the law, walked. No statement is proved here. -/
import Derived.Test.YtmehjcimohhopaaDoorTxpN
namespace Go.Proofs.YtmehjcimohhopaaDoor
open Go.RowKit

theorem lent_keep {B : Nat} {w w' : World} {v : Value} {xs : List UInt8} (h : LentAt B w v xs) (hb : Below w.heap.size w w') : LentAt B w' v xs := by
  obtain ⟨g, cap, hv, ho⟩ := h
  exact ⟨g, cap, hv, own_keep ho hb⟩
theorem lent_bytes {B : Nat} {w : World} {v : Value} {xs : List UInt8} (h : LentAt B w v xs) : Bytes (B ≤ ·) w v xs := by
  obtain ⟨g, cap, rfl, hown⟩ := h
  obtain ⟨hcap, hcm⟩ : xs.length + 1 ≤ cap ∧ cap ≤ 9223372036854775807 := by
    rcases hown.2 with ⟨_, h⟩ | ⟨g, cap', cur, h, _, _, h1, h2, _⟩
    · omega
    · injection h with _ _ h
      subst h
      exact ⟨h1, by unfold maxLen at h2; omega⟩
  have h1 := RowAt.of_own hown
  have h2 := RowAt.cut (sz := 1) h1 0 xs.length cap (by omega) (by omega) (by unfold maxLen; omega)
  unfold Bytes
  simpa [byteCells_append, byteCells_length] using h2
/-- What is lent is a row of the call's own, without the mark too. -/
theorem lent_own {B : Nat} {w : World} {v : Value} {xs : List UInt8} (h : LentAt B w v xs) : w.ownsRow B 5 1 v xs.length (byteCells xs) ∧ ∃ g, v.ownBlock = some g ∧ B ≤ g ∧ g < w.heap.size := by
  obtain ⟨g, cap, rfl, hown⟩ := h
  have hge := own_blk_ge hown
  have hlt := own_blk_lt hown
  rcases hown.2 with ⟨h0, _⟩ | ⟨g', cap', cur, h, hb, hg, h1, h2, h3, h4⟩
  · omega
  · injection h with e1 e2 e3
    injection e1 with e1
    injection e1 with e1
    subst e1 e3
    have hgl := (Array.getElem?_eq_some_iff.1 hg).1
    refine ⟨⟨by rw [byteCells_length, Nat.mul_one], .inr ⟨g, cap, cur, rfl, hb, hg, by omega, h2, h3, ?_⟩⟩, g, rfl, hb, hgl⟩
    have h5 : (cur.toList.take ((xs.length + 1) * 1)).take xs.length = (byteCells (xs ++ [167])).take xs.length := by rw [h4]
    rw [List.take_take, Nat.mul_one, Nat.min_eq_left (by omega), byteCells_append, List.take_left' (byteCells_length xs)] at h5
    rw [Nat.mul_one]
    exact h5
theorem nodup_next {l : List Pr} {a : Nat} (h : a < l.length) (hn : ((l.take a).map (·.1)).Nodup) (hd : ∀ r, r < a → l[r]?.map (·.1) ≠ some l[a].1) : ((l.take (a + 1)).map (·.1)).Nodup := by
  rw [List.take_succ_eq_append_getElem h, List.map_append, List.nodup_append]
  refine ⟨hn, by simp, ?_⟩
  intro x hx y hy e
  subst e
  obtain ⟨p, hp, hpx⟩ := List.mem_map.1 hx
  obtain ⟨r, hr, hrp⟩ := List.getElem_of_mem hp
  have hra : r < a := by simp at hr; omega
  have hy' : x = l[a].1 := by simpa using hy
  apply hd r hra
  rw [List.getElem?_eq_getElem (by omega)]
  rw [List.getElem_take] at hrp
  show some l[r].1 = _
  rw [hrp, hpx, hy']
theorem str_eq {a b : ByteArray} (h : (a.toList == b.toList) = false) : a ≠ b := fun e => by rw [e] at h; simp at h
set_option maxRecDepth 100000 in
set_option maxHeartbeats 20000000 in
theorem textBytes_any {S : Nat → Prop} (va vb : Value) (l : List Pr) (bb : List UInt8) (w : World) (hl : PairsAt S w va l) (hb : Bytes S w vb bb) (hm : Mx w) (h1 : l.length ≤ 1048576) (h2 : bb.length ≤ 1048576)
    (hss : ∀ p ∈ l, p.1.size ≤ 1048576 ∧ p.2.size ≤ 1048576) :
    Calls Tryd.prog 7 #[va, vb] w fun e w' => e = .returned (.bool true) ∧ Below w.heap.size w w' := by
  obtain ⟨A, cA, rfl⟩ := RowAt.slice hl
  obtain ⟨B, cB, rfl⟩ := Bytes.slice hb
  have hmax := RowAt.le hl
  unfold maxLen at hmax
  have hle := lent_any S _ bb w hb (by omega)
  have hg := fun (W : World) (hW : Below w.heap.size w W) => given_big (.slice A l.length cA) l W (hl.keep hW) (by omega)
  have hp := fun (v : Value) (T : Nat → Prop) (W : World) (hp : PairsAt T W v l) => xput_any v l W hp
  have hyp := fun (W : World) (hW : Below w.heap.size w W) => yput_any (.slice A l.length cA) l W (hl.keep hW) (fun p hp => by have := hss p hp; omega)
  have hgx := fun (v : Value) (T : Nat → Prop) (W : World) (hv : Bytes T W v bb) (hW : Below w.heap.size w W) => xget_any v bb W hv (by omega) (hm.keep hW)
  have hgy := fun (W : World) (hW : Below w.heap.size w W) => yget_any (.slice B bb.length cB) bb W (hb.keep hW) (by omega)
  have hkp := fun (B' : Nat) (u : Value) (W : World) (hu : LentAt B' W u bb) (hW : Below w.heap.size w W) => kept_any S B' u (.slice B bb.length cB) bb W hu (hb.keep hW) (by omega)
  have hql := getP_len bb
  have hqo := putP_getP bb
  have hxz := getP_putP l
  have hxl := fun (h : (putP l).2 = 0) => (putP_ok h).1
  have hxs := putP_size l
  obtain ⟨⟨qs, gx⟩, hqs⟩ : ∃ r, getP bb = r := ⟨_, rfl⟩
  obtain ⟨⟨xs, ex⟩, hx⟩ : ∃ r, putP l = r := ⟨_, rfl⟩
  rw [hqs] at hgx hgy hql hqo
  rw [hx] at hp hyp hxz hxl hxs
  simp only at hql hqo hxz hxl hxs
  have HL := Lib.hid hl
  have HBb := Lib.hid hb
  have Hm := Lib.hid hm
  have HLE := Lib.hid hle
  have HG := Lib.hid hg
  have HP := Lib.hid hp
  have HYP := Lib.hid hyp
  have HGX := Lib.hid hgx
  have HGY := Lib.hid hgy
  have HKP := Lib.hid hkp
  have HQ := Lib.hid (And.intro (show qs.length ≤ 4096 by omega) hqo)
  have HXZ := Lib.hid (And.intro hxz (And.intro hxl hxs))
  have H47 := Lib.hid (show bb.length < 140737488355328 by omega)
  clear hl hb hm h2 hss hle hg hp hyp hgx hgy hkp hql hqo hxz hxl hxs hqs hx
  go_enter Tryd.func7, Tryd.ntmps7
  go_upto_region 6 with (first
    | (go_at_call 24; refine HLE.out.mono ?_; rintro _ W1 ⟨v1, rfl, hlt, hb1⟩; have HLt := Lib.hid hlt; have HB := Lib.hid hb1; have H11 : Hid (Below W1.heap.size W1 W1) := Lib.hid (Below.refl _ _); clear hlt hb1)
    | (go_at_call 19; refine (HG.out _ HB.out).mono ?_; rintro _ W2 ⟨v2, rfl, hp2, hb2⟩; have HP2 := Lib.hid hp2; have HB := Lib.hid (below_then HB.out hb2); have H11 := Lib.hid (below_then H11.out hb2); clear hp2 hb2)
    | (go_at_call 23; refine (HP.out _ _ _ HP2.out).mono ?_; rintro _ W3 ⟨v3, rfl, hp3, hb3⟩; have HX := Lib.hid (Bytes.mono hp3 (T := fun b => W1.heap.size ≤ b) (fun _ _ h => Nat.le_trans H11.out.size h)); have HB := Lib.hid (below_then HB.out hb3); have H11 := Lib.hid (below_then H11.out hb3); clear hp3 hb3)
    | (go_at_call 25; refine (HYP.out _ HB.out).mono ?_; rintro _ W4 ⟨v4, rfl, hp4, hb4⟩; have HY := Lib.hid hp4; have HX := Lib.hid (Bytes.keep HX.out hb4); have HB := Lib.hid (below_then HB.out hb4); have H11 := Lib.hid (below_then H11.out hb4); clear hp4 hb4)
    | (go_at_call 26; refine (HGX.out _ _ _ (lent_bytes (lent_keep HLt.out H11.out)) HB.out).mono ?_; rintro _ W5 ⟨v5, rfl, hp5, hb5⟩; have HP5 := Lib.hid (RowAt.mono hp5 (T := fun b => W1.heap.size ≤ b) (fun _ _ h => Nat.le_trans H11.out.size h)); have HX := Lib.hid (Bytes.keep HX.out hb5); have HY := Lib.hid (Bytes.keep HY.out hb5); have HB := Lib.hid (below_then HB.out hb5); have H11 := Lib.hid (below_then H11.out hb5); clear hp5 hb5)
    | (go_at_call 27; refine (HGY.out _ HB.out).mono ?_; rintro _ W6 ⟨v6, rfl, hp6, hb6⟩; have HP6 := Lib.hid (RowAt.mono hp6 (T := fun b => W1.heap.size ≤ b) (fun _ _ h => Nat.le_trans H11.out.size h)); have HP5 := Lib.hid (RowAt.keep HP5.out hb6); have HX := Lib.hid (Bytes.keep HX.out hb6); have HY := Lib.hid (Bytes.keep HY.out hb6); have HB := Lib.hid (below_then HB.out hb6); have H11 := Lib.hid (below_then H11.out hb6); clear hp6 hb6))
  have s1 := bytes_str HX.out
  have s2 := bytes_str HY.out
  go_upto_region 8 with (first
    | (go_at_call 22; refine (taken_any _ qs _ HP5.out HQ.out.1).mono ?_; rintro _ W7 ⟨v7, rfl, hp7, hb7⟩; have HP7 := Lib.hid hp7; have HP5 := Lib.hid (RowAt.keep HP5.out hb7); have HP6 := Lib.hid (RowAt.keep HP6.out hb7); have HX := Lib.hid (Bytes.keep HX.out hb7); have HB := Lib.hid (below_then HB.out hb7); have H11 := Lib.hid (below_then H11.out hb7); clear hp7 hb7)
    | (go_at_call 21; refine (ysame_eq _ _ qs _ HP7.out HP6.out).mono ?_; rintro _ W8 ⟨rfl, hb8⟩; have HP5 := Lib.hid (RowAt.keep HP5.out hb8); have HP6 := Lib.hid (RowAt.keep HP6.out hb8); have HX := Lib.hid (Bytes.keep HX.out hb8); have HB := Lib.hid (below_then HB.out hb8); have H11 := Lib.hid (below_then H11.out hb8); clear hb8)
    | (go_at_call 28; refine (HKP.out _ _ _ (lent_keep HLt.out H11.out) HB.out).mono ?_; rintro _ _ ⟨rfl, rfl⟩))
  go_wp2_with fail
  obtain ⟨hmo, g, hmg, hg0, -⟩ := lent_own (lent_keep HLt.out H11.out)
  obtain ⟨-, g', hmg', -, hg1⟩ := lent_own HLt.out
  have hgg : g = g' := by rw [hmg] at hmg'; exact Option.some.inj hmg'
  have hgn : ¬ (W1.heap.size ≤ g) := by omega
  refine (spoil_any w.heap.size v1 bb.length _ _ hmo H47.out HB.out.size).mono ?_
  rintro _ W9 ⟨⟨v9, rfl⟩, hgr⟩
  rw [hmg] at hgr
  have hsm := same_grownG hgr (S := fun b => W1.heap.size ≤ b) hgn
  have HP5 := Lib.hid (RowAt.keepS HP5.out hsm)
  have HP6 := Lib.hid (RowAt.keepS HP6.out hsm)
  have HX := Lib.hid (Bytes.keepS HX.out hsm)
  have HB : Hid (Below w.heap.size w W9) := Lib.hid (HB.out.grown hgr HB.out.size (fun k hk => by injection hk with hk; omega))
  clear hmo hmg hg0 hmg' hg1 hgg hgn hgr hsm s1 s2 HLt H11 HY
  go_upto_region 11 with (first
    | (go_at_call 22; refine (taken_any _ qs _ HP5.out HQ.out.1).mono ?_; rintro _ WA ⟨va, rfl, hpa, hba⟩; have HPA := Lib.hid hpa; have HP6 := Lib.hid (RowAt.keep HP6.out hba); have HX := Lib.hid (Bytes.keep HX.out hba); have HB := Lib.hid (below_then HB.out hba); clear hpa hba)
    | (go_at_call 21; refine (ysame_eq _ _ qs _ HPA.out HP6.out).mono ?_; rintro _ WB ⟨rfl, hbb⟩; have HP6 := Lib.hid (RowAt.keep HP6.out hbb); have HX := Lib.hid (Bytes.keep HX.out hbb); have HB : Hid (Below w.heap.size w WB) := Lib.hid (below_then HB.out hbb); clear hbb))
  rename World => WB
  clear HP HYP HGX HGY HKP HLE HPA HP5
  go_upto_if 79 with fail
  go_cut [] (fun wx => Hid (Below WB.heap.size WB wx))
  case first =>
    by_cases hgx0 : gx = 0
    · subst hgx0
      have hpq := HQ.out.2 rfl
      have hput := fun (v : Value) (T : Nat → Prop) (W : World) (hp : PairsAt T W v qs) => xput_any v qs W hp
      rw [hpq] at hput
      have HPT := Lib.hid hput
      have H0 : Hid (Below WB.heap.size WB WB) := Lib.hid (Below.refl _ _)
      obtain ⟨z, hz⟩ : ∃ z : ByteArray, ⟨bb.toArray⟩ = z := ⟨_, rfl⟩
      have HZ := Lib.hid hz
      clear hpq hput hz
      go_wp2_with (first
        | (go_at_call 19; refine (given_big _ qs _ HP6.out (by have := HQ.out.1; omega)).mono ?_; rintro _ WC ⟨vc, rfl, hpc, hbc⟩; have HPC := Lib.hid hpc; have H0 := Lib.hid (below_then H0.out hbc); clear hpc hbc)
        | (go_at_call 23; refine (HPT.out _ _ _ HPC.out).mono ?_; rintro _ WD ⟨vd, rfl, hpd, hbd⟩; have H0 := Lib.hid (below_then H0.out hbd); have s1 := bytes_str hpd; have s2 := bytes_str (HBb.out.keep (below_then HB.out H0.out)); rw [HZ.out] at s1 s2; clear hpd hbd))
      go_meet
      exact H0.out
    · go_wp2_with fail
      go_meet
      exact Below.refl _ _
  case rest =>
    have HX := Lib.hid (Bytes.keep HX.out hcut.out)
    have HB : Hid (Below w.heap.size w wc) := Lib.hid (below_then HB.out hcut.out)
    clear hcut HP6 HQ
    by_cases hex : ex = 0
    · subst hex
      have hl64 := HXZ.out.2.1 rfl
      have HXA := Lib.hid (HXZ.out.1 rfl)
      have HXB := Lib.hid HXZ.out.2.2
      clear HXZ
      have hl3 : (l.length : Int) ≤ 64 := by omega
      have Hl64 := Lib.hid hl64
      clear hl64 hmax h1
      go_wp2_with fail
      go_loopw [16] (fun i wr => ∃ a : Nat, a ≤ l.length ∧ i = .int .i64 a ∧ Hid (((l.take a).map (·.1)).Nodup) ∧ Hid (Below w.heap.size w wr ∧ Bytes (W1.heap.size ≤ ·) wr v3 xs)) (fun i _ => l.length - (intOf i).toNat)
      case atStart => exact ⟨0, Nat.zero_le _, rfl, Lib.hid (by simp), Lib.hid ⟨HB.out, HX.out⟩⟩
      case round =>
        rename World => WL
        obtain ⟨a, ha, rfl, HD, HW⟩ := hrel
        by_cases hlt : a < l.length
        · have hlt3 : (a : Int) < l.length := by omega
          go_wp2_with fail
          go_loopw [17] (fun i wr => ∃ c : Nat, c ≤ a ∧ i = .int .i64 c ∧ Hid (∀ r, r < c → l[r]?.map (·.1) ≠ some l[a].1) ∧ Hid (Below WL.heap.size WL wr)) (fun i _ => a - (intOf i).toNat)
          case atStart => exact ⟨0, Nat.zero_le _, rfl, Lib.hid (fun r hr => by omega), Lib.hid (Below.refl _ _)⟩
          case round =>
            rename World => WM
            obtain ⟨c, hc, rfl, HC, HM⟩ := hrel
            by_cases hca : c < a
            · have hca3 : (c : Int) < a := by omega
              have hcl3 : (c : Int) < l.length := by omega
              have hcl : c < l.length := by omega
              obtain ⟨b1, b2, b3, hv1, hn1, hc1, -, hab1, hcell1⟩ := RowAt.form HL.out (by omega)
              injection hv1 with hv1 _ hv3
              subst hv1 hv3
              have HBM := Lib.hid (below_then HW.out.1 HM.out)
              obtain ⟨p0, -⟩ := pairCells_at l a hlt
              obtain ⟨p2, -⟩ := pairCells_at l c hcl
              have x0 := cell_keep HBM.out (hcell1 _ _ p0)
              have x1 := cell_keep HBM.out (hcell1 _ _ p2)
              have hlc : l[c]?.map (·.1) = some l[c].1 := by rw [List.getElem?_eq_getElem hcl]; rfl
              obtain ⟨kc, hkc⟩ : ∃ kc, l[c].1 = kc := ⟨_, rfl⟩
              obtain ⟨ka, hka⟩ : ∃ ka, l[a].1 = ka := ⟨_, rfl⟩
              rw [hka] at x0 HC
              rw [hkc] at x1 hlc
              have HLC := Lib.hid hlc
              have Hka := Lib.hid hka
              clear hcell1 p0 p2 hn1 hab1 hkc hka hlc
              cases he : (ka.toList == kc.toList) with
              | true =>
                go_wp2_with fail
                go_region
                go_wp2_with (go_at_call 13; refine (known_any _ (Hm.out.keep (below_drew1 HBM.out))).mono ?_; rintro _ WK ⟨rfl, hbk⟩; have HBK := Lib.hid (below_then (below_drew1 HBM.out) hbk); clear hbk)
                go_ret
                exact ⟨rfl, HBK.out⟩
              | false =>
                have HC2 : Hid (∀ r, r < c + 1 → l[r]?.map (·.1) ≠ some l[a].1) := Lib.hid (by
                  intro r hr
                  rw [Hka.out]
                  by_cases e : r = c
                  · rw [e, HLC.out]; intro h; injection h with h; exact str_eq he h.symm
                  · exact HC.out r (by omega))
                go_wp2_with fail
                go_region
                go_wp2_with fail
                exact ⟨⟨c + 1, hca, by go_num, HC2, Lib.hid (below_drew1 HM.out)⟩, by simp [intOf]; omega⟩
            · obtain rfl : c = a := by omega
              have HD2 := Lib.hid (nodup_next hlt HD.out HC.out)
              go_wp2_with fail
              exact ⟨⟨c + 1, hlt, by go_num, HD2, Lib.hid ⟨below_then HW.out.1 HM.out, Bytes.keep HW.out.2 HM.out⟩⟩, by simp [intOf]; omega⟩
        · obtain rfl : a = l.length := by omega
          have hgx : getP xs = (l, 0) := HXA.out (by have := HD.out; rwa [List.take_length] at this)
          have hget := xget_any v3 xs WL HW.out.2 (by have := HXB.out; omega) (Hm.out.keep HW.out.1)
          rw [hgx] at hget
          have HGET := Lib.hid hget
          have HL2 := Lib.hid (HL.out.keep HW.out.1)
          have H0 : Hid (Below WL.heap.size WL WL) := Lib.hid (Below.refl _ _)
          clear hgx hget
          go_wp2_with (first
            | (go_at_call 26; refine HGET.out.mono ?_; rintro _ WE ⟨ve, rfl, hpe, hbe⟩; have HPE := Lib.hid hpe; have H0 := Lib.hid hbe; clear hpe hbe)
            | (go_at_call 22; refine (taken_any _ l _ HPE.out (by have := Hl64.out; omega)).mono ?_; rintro _ WF ⟨vf, rfl, hpf, hbf⟩; have HPF := Lib.hid hpf; have H0 := Lib.hid (below_then H0.out hbf); clear hpf hbf)
            | (go_at_call 21; refine (ysame_eq _ _ l _ HPF.out (HL2.out.keep H0.out)).mono ?_; rintro _ WG ⟨rfl, hbg⟩; have H0 := Lib.hid (below_then H0.out hbg); clear hbg)
            | (go_at_call 13; refine (known_any _ (Hm.out.keep (below_then HW.out.1 H0.out))).mono ?_; rintro _ WK ⟨rfl, hbk⟩; have H0 := Lib.hid (below_then H0.out hbk); clear hbk))
          go_ret
          exact ⟨rfl, below_then HW.out.1 H0.out⟩
    · go_wp2_with (go_at_call 13; refine (known_any _ (Hm.out.keep HB.out)).mono ?_; rintro _ WK ⟨rfl, hbk⟩; have HBK := Lib.hid (below_then HB.out hbk); clear hbk)
      go_ret
      exact ⟨rfl, HBK.out⟩
end Go.Proofs.YtmehjcimohhopaaDoor
