/- The bytes of pairs, cut: the law, walked. No statement is proved here. -/
import Derived.Test.YtmehjcimohhopaaDoorTxpM
import Derived.Test.YtmehjcimohhopaaDoorTxrF
namespace Go.Proofs.YtmehjcimohhopaaDoor
open Go.RowKit

theorem qcount_any (n m : Int) (w : World) (_hn : in64 n) (hm : 0 < m) (hm2 : m ≤ 4611686018427387904) :
    Calls Tryd.prog 30 #[.int .i64 n, .int .i64 m] w fun e w' => (∃ r : Int, e = .returned (.int .i64 r) ∧ 0 ≤ r ∧ r < m) ∧ w = w' := by
  have h1 := Int.tmod_lt_of_pos n hm
  have h2 := Int.lt_tmod_of_pos n hm
  have h0 : m ≠ 0 := by omega
  obtain ⟨r, hr⟩ : ∃ r, r = n.tmod m := ⟨_, rfl⟩
  rw [← hr] at h1 h2
  by_cases hneg : r < 0
  · go_enter Tryd.func30, Tryd.ntmps30
    have hr2 := hr.symm
    clear hr
    go_wp2_with fail
    go_ret
    exact ⟨⟨_, rfl, by omega, by omega⟩, rfl⟩
  · go_enter Tryd.func30, Tryd.ntmps30
    have hr2 := hr.symm
    clear hr
    go_wp2_with fail
    go_ret
    exact ⟨⟨_, rfl, by omega, by omega⟩, rfl⟩

theorem bytes_take {S : Nat → Prop} {w : World} {A : Option Addr} {n c : Nat} {xs : List UInt8} (h : Bytes S w (.slice A n c) xs) (k : Nat) (hk : k ≤ xs.length) : Bytes S w (.slice A k c) (xs.take k) := by
  have hl : (xs.take k).length = k := by rw [List.length_take]; omega
  unfold Bytes
  rw [hl]
  rcases h.2 with ⟨h0, hv | ⟨a', c', hv⟩⟩ | ⟨b, o, c', hv, hn, hc, hS, hb, hcell⟩
  · injection hv with e1 e2 e3
    subst e1 e3
    obtain rfl : k = 0 := by omega
    exact ⟨by simp [byteCells], .inl ⟨rfl, .inl rfl⟩⟩
  · injection hv with e1 e2 e3
    subst e1
    obtain rfl : k = 0 := by omega
    exact ⟨by simp [byteCells], .inl ⟨rfl, .inr ⟨a', c, rfl⟩⟩⟩
  · injection hv with e1 e2 e3
    subst e1 e3
    refine ⟨by rw [byteCells_length, hl, Nat.mul_one], .inr ⟨b, o, c, rfl, by omega, hc, hS, hb, fun i u hu => hcell i u ?_⟩⟩
    have hi : i < k := by
      have := (List.getElem?_eq_some_iff.1 hu).1
      rw [byteCells_length, hl] at this
      exact this
    rw [byteCells_get _ i (by omega)] at hu
    rw [byteCells_get _ i (by omega), ← hu, List.getElem_take]
theorem getP_len (b : List UInt8) : (getP b).1.length ≤ 64 := by
  unfold getP
  split
  · simp
  · split
    · simp
    · cases h : getRun (splitZ b.dropLast) with
      | error e => simp [getRes]
      | ok q => exact getRun_len _ _ h
theorem putP_nil {l : List Pr} (h : (putP l).2 = 0) (hn : (putP l).1 = []) : l = [] := by
  obtain ⟨-, -, h3⟩ := putP_ok h
  rw [h3] at hn
  cases l with
  | nil => rfl
  | cons p l => simp [bytesL] at hn
theorem getP_cut {b : List UInt8} {k : Nat} (hk : 0 < k) (hl : k ≤ b.length) (hz : ¬ b[k - 1] = 0) : (getP (b.take k)).2 = 10 := by
  have hne : b.take k ≠ [] := List.ne_nil_of_length_pos (by rw [List.length_take]; omega)
  rw [getP_short hne]
  rw [List.getLastD_eq_getLast?, List.getLast?_eq_getElem?]
  simp only [List.length_take, Nat.min_eq_left hl]
  rw [List.getElem?_take_of_lt (by omega), List.getElem?_eq_getElem (by omega)]
  exact hz
set_option maxRecDepth 100000 in
set_option maxHeartbeats 20000000 in
theorem textCuts_any {S : Nat → Prop} (va : Value) (l : List Pr) (n : Int) (w : World) (hl : PairsAt S w va l) (hm : Mx w) (h1 : l.length ≤ 4398046511103) (hin : in64 n) :
    Calls Tryd.prog 8 #[va, .int .i64 n] w fun e w' => e = .returned (.bool true) ∧ Below w.heap.size w w' := by
  obtain ⟨A, cA, rfl⟩ := RowAt.slice hl
  have hmax := RowAt.le hl
  unfold maxLen at hmax
  have hg := given_big (.slice A l.length cA) l w hl (by omega)
  have hp := fun (v : Value) (T : Nat → Prop) (W : World) (hp : PairsAt T W v l) => xput_any v l W hp
  have hsz := putP_size l
  have hnil := putP_nil (l := l)
  have herr := putP_err l
  obtain ⟨⟨xs, ex⟩, hx⟩ : ∃ r, putP l = r := ⟨_, rfl⟩
  rw [hx] at hp hsz hnil herr
  simp only at hsz hnil herr
  have HG := Lib.hid hg
  have HP := Lib.hid hp
  have Hm := Lib.hid hm
  have HI := Lib.hid hin
  clear hl hm hg hp hx h1 hin
  by_cases hex : ex = 0
  · obtain rfl := hex
    by_cases hxs : xs.length = 0
    · obtain rfl : xs = [] := List.eq_nil_of_length_eq_zero hxs
      obtain rfl := hnil rfl rfl
      clear hsz herr hxs hnil
      go_enter Tryd.func8, Tryd.ntmps8
      go_wp2_with (first
        | (go_at_call 19; refine HG.out.mono ?_; rintro _ W3 ⟨v3, rfl, hp3, hb3⟩; have HP3 := Lib.hid hp3; have HB := Lib.hid hb3; clear hp3 hb3)
        | (go_at_call 23; refine (HP.out _ _ _ HP3.out).mono ?_; rintro _ W4 ⟨v4, rfl, hp4, hb4⟩; obtain ⟨A4, c4, rfl⟩ := Bytes.slice hp4; have HB := Lib.hid (below_then HB.out hb4); clear hp4 hb4)
        | (go_at_call 13; refine (known_any _ (Hm.out.keep HB.out)).mono ?_; rintro _ W9 ⟨rfl, hb9⟩; have HB := Lib.hid (below_then HB.out hb9); clear hb9))
      go_ret
      exact ⟨rfl, HB.out⟩
    · clear hnil herr
      have hxs3 : ¬ (xs.length : Int) = 0 := by omega
      have hsz3 : (xs.length : Int) ≤ 20480 := by omega
      have Hsz := Lib.hid hsz
      clear hsz
      go_enter Tryd.func8, Tryd.ntmps8
      go_wp2_with (first
        | (go_at_call 19; refine HG.out.mono ?_; rintro _ W3 ⟨v3, rfl, hp3, hb3⟩; have HP3 := Lib.hid hp3; have HB := Lib.hid hb3; clear hp3 hb3)
        | (go_at_call 23; refine (HP.out _ _ _ HP3.out).mono ?_; rintro _ W4 ⟨v4, rfl, hp4, hb4⟩; obtain ⟨A4, c4, rfl⟩ := Bytes.slice hp4; have HX := Lib.hid hp4; have HB := Lib.hid (below_then HB.out hb4); clear hp4 hb4))
      refine (qcount_any n (xs.length + 1) _ HI.out (by omega) (by omega)).mono ?_
      rintro _ W5 ⟨⟨r, rfl, hr0, hr1⟩, rfl⟩
      obtain ⟨k, rfl⟩ : ∃ k : Nat, r = k := ⟨r.toNat, by omega⟩
      have hk : k ≤ xs.length := by omega
      have hB7 := bytes_take HX.out k hk
      have hlk : (xs.take k).length = k := by rw [List.length_take]; omega
      have hgx := xget_any _ (xs.take k) W4 hB7 (by omega) (Hm.out.keep HB.out)
      have hgy := fun (W : World) (hW : Below W4.heap.size W4 W) => yget_any _ (xs.take k) W (Bytes.keep hB7 hW) (by omega)
      have hql := getP_len (xs.take k)
      have h10 := fun (h0 : 0 < k) => getP_cut (b := xs) h0 hk
      obtain ⟨⟨q, f⟩, hqf⟩ : ∃ r, getP (xs.take k) = r := ⟨_, rfl⟩
      rw [hqf] at hgx hgy hql h10
      simp only at hql h10
      have HGX := Lib.hid hgx
      have HGY := Lib.hid hgy
      have HQ := Lib.hid (show q.length ≤ 4096 by omega)
      have H10 := Lib.hid h10
      clear hB7 hlk hgx hgy hql h10 hqf hr0 hr1
      have hk3 : (k : Int) ≤ xs.length := by omega
      have hk4 : (k : Int) ≤ 20480 := by omega
      by_cases hk0 : k = 0
      · subst hk0
        go_wp2_with (first
          | (go_at_call 26; refine HGX.out.mono ?_; rintro _ W6 ⟨v6, rfl, hp6, hb6⟩; have HP6 := Lib.hid hp6; have HB6 := Lib.hid hb6; clear hp6 hb6)
          | (go_at_call 27; refine (HGY.out _ HB6.out).mono ?_; rintro _ W7 ⟨v7, rfl, hp7, hb7⟩; have HP7 := Lib.hid hp7; have HP6 := Lib.hid (PairsAt.keep HP6.out hb7); have HB6 := Lib.hid (below_then HB6.out hb7); clear hp7 hb7)
          | (go_at_call 22; refine (taken_any _ q _ HP6.out HQ.out).mono ?_; rintro _ W8 ⟨v8, rfl, hp8, hb8⟩; have HP8 := Lib.hid hp8; have HP7 := Lib.hid (PairsAt.keep HP7.out hb8); have HB6 := Lib.hid (below_then HB6.out hb8); clear hp8 hb8)
          | (go_at_call 21; refine (ysame_eq _ _ q _ HP8.out HP7.out).mono ?_; rintro _ W9 ⟨rfl, hb9⟩; have HB6 := Lib.hid (below_then HB6.out hb9); clear hb9)
          | (go_at_call 13; refine (known_any _ (Hm.out.keep (below_then HB.out HB6.out))).mono ?_; rintro _ WA ⟨rfl, hba⟩; have HB6 := Lib.hid (below_then HB6.out hba); clear hba))
        go_ret
        exact ⟨rfl, below_then HB.out HB6.out⟩
      · have hk03 : ¬ (k : Int) = 0 := by omega
        have hkp : 0 < k := by omega
        obtain ⟨b1, b2, b3, hv1, hn1, hc1, -, hab1, hcell1⟩ := RowAt.form HX.out (by omega)
        injection hv1 with hv1 _ hv3
        subst hv1 hv3
        have hcl := hcell1 _ _ (byte_cell xs (k - 1) (by omega))
        have h10' := H10.out hkp
        obtain ⟨z, hz⟩ : ∃ z, xs[k - 1] = z := ⟨_, rfl⟩
        rw [hz] at hcl h10'
        have HCL := Lib.hid hcl
        have hk5 : k ≤ c4 := by omega
        clear hcell1 hn1 hab1 hcl hz
        by_cases hz0 : (z.toNat : Int) = 0
        · have hz1 : ((z.toNat : Int) == 0) = true := by simpa using hz0
          clear h10'
          go_wp2_with (first
            | (go_at_call 26; refine HGX.out.mono ?_; rintro _ W6 ⟨v6, rfl, hp6, hb6⟩; have HP6 := Lib.hid hp6; have HB6 := Lib.hid hb6; clear hp6 hb6)
            | (go_at_call 27; refine (HGY.out _ HB6.out).mono ?_; rintro _ W7 ⟨v7, rfl, hp7, hb7⟩; have HP7 := Lib.hid hp7; have HP6 := Lib.hid (PairsAt.keep HP6.out hb7); have HB6 := Lib.hid (below_then HB6.out hb7); clear hp7 hb7)
            | (go_at_call 22; refine (taken_any _ q _ HP6.out HQ.out).mono ?_; rintro _ W8 ⟨v8, rfl, hp8, hb8⟩; have HP8 := Lib.hid hp8; have HP7 := Lib.hid (PairsAt.keep HP7.out hb8); have HB6 := Lib.hid (below_then HB6.out hb8); clear hp8 hb8)
            | (go_at_call 21; refine (ysame_eq _ _ q _ HP8.out HP7.out).mono ?_; rintro _ W9 ⟨rfl, hb9⟩; have HB6 := Lib.hid (below_then HB6.out hb9); have hcl := cell_keep HB6.out HCL.out; clear hb9)
            | (go_at_call 13; refine (known_any _ (Hm.out.keep (below_then HB.out HB6.out))).mono ?_; rintro _ WA ⟨rfl, hba⟩; have HB6 := Lib.hid (below_then HB6.out hba); clear hba))
          go_ret
          exact ⟨rfl, below_then HB.out HB6.out⟩
        · have hz1 : ((z.toNat : Int) == 0) = false := by simpa using hz0
          have hf : f = 10 := h10' (fun e => hz0 (by rw [e]; rfl))
          subst hf
          clear h10'
          go_wp2_with (first
            | (go_at_call 26; refine HGX.out.mono ?_; rintro _ W6 ⟨v6, rfl, hp6, hb6⟩; have HP6 := Lib.hid hp6; have HB6 := Lib.hid hb6; clear hp6 hb6)
            | (go_at_call 27; refine (HGY.out _ HB6.out).mono ?_; rintro _ W7 ⟨v7, rfl, hp7, hb7⟩; have HP7 := Lib.hid hp7; have HP6 := Lib.hid (PairsAt.keep HP6.out hb7); have HB6 := Lib.hid (below_then HB6.out hb7); clear hp7 hb7)
            | (go_at_call 22; refine (taken_any _ q _ HP6.out HQ.out).mono ?_; rintro _ W8 ⟨v8, rfl, hp8, hb8⟩; have HP8 := Lib.hid hp8; have HP7 := Lib.hid (PairsAt.keep HP7.out hb8); have HB6 := Lib.hid (below_then HB6.out hb8); clear hp8 hb8)
            | (go_at_call 21; refine (ysame_eq _ _ q _ HP8.out HP7.out).mono ?_; rintro _ W9 ⟨rfl, hb9⟩; have HB6 := Lib.hid (below_then HB6.out hb9); have hcl := cell_keep HB6.out HCL.out; clear hb9)
            | (go_at_call 13; refine (known_any _ (Hm.out.keep (below_then HB.out HB6.out))).mono ?_; rintro _ WA ⟨rfl, hba⟩; have HB6 := Lib.hid (below_then HB6.out hba); clear hba))
          go_ret
          exact ⟨rfl, below_then HB.out HB6.out⟩
  · clear hnil hsz herr
    go_enter Tryd.func8, Tryd.ntmps8
    go_wp2_with (first
      | (go_at_call 19; refine HG.out.mono ?_; rintro _ W3 ⟨v3, rfl, hp3, hb3⟩; have HP3 := Lib.hid hp3; have HB := Lib.hid hb3; clear hp3 hb3)
      | (go_at_call 23; refine (HP.out _ _ _ HP3.out).mono ?_; rintro _ W4 ⟨v4, rfl, hp4, hb4⟩; obtain ⟨A4, c4, rfl⟩ := Bytes.slice hp4; have HB := Lib.hid (below_then HB.out hb4); clear hp4 hb4)
      | (go_at_call 13; refine (known_any _ (Hm.out.keep HB.out)).mono ?_; rintro _ W9 ⟨rfl, hb9⟩; have HB := Lib.hid (below_then HB.out hb9); clear hb9))
    go_ret
    exact ⟨rfl, HB.out⟩
end Go.Proofs.YtmehjcimohhopaaDoor
