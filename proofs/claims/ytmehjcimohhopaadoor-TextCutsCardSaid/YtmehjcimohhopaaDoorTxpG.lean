/- Bytes of pairs, part by part: the law, walked. No statement is proved here. -/
import Derived.Test.YtmehjcimohhopaaDoorTxpF
namespace Go.Proofs.YtmehjcimohhopaaDoor
open Go.RowKit

theorem bytesL_append (a b : List Pr) : bytesL (a ++ b) = bytesL a ++ bytesL b := by simp [bytesL]
theorem putP_two {a b : List Pr} (h : ¬ ((putP a).2 = 0 ∧ (putP b).2 = 0)) : (putP (a ++ b)).1 = [] ∧ ((putP (a ++ b)).2 = 1 ∨ (putP (a ++ b)).2 = 3) := by
  by_cases hl : 64 < (a ++ b).length
  · rw [putP_long hl]; exact ⟨rfl, .inr rfl⟩
  · rw [List.length_append] at hl
    have hab : (a ++ b).all pairOK = false := by
      cases hx : (a ++ b).all pairOK with
      | false => rfl
      | true =>
        rw [List.all_append, Bool.and_eq_true] at hx
        exact absurd ⟨by rw [putP_good (by omega) hx.1], by rw [putP_good (by omega) hx.2]⟩ h
    rw [putP_bad (by rw [List.length_append]; omega) hab]
    exact ⟨rfl, .inl rfl⟩
theorem putP_ok {l : List Pr} (h : (putP l).2 = 0) : l.length ≤ 64 ∧ l.all pairOK = true ∧ (putP l).1 = bytesL l := by
  unfold putP at h ⊢
  split
  · rename_i hl
    rw [if_pos hl] at h
    exact absurd h (by decide)
  · rename_i hl
    rw [if_neg hl] at h
    split
    · rename_i ho
      exact ⟨by omega, ho, rfl⟩
    · rename_i ho
      rw [if_neg ho] at h
      exact absurd h (by decide)
theorem putP_both {a b : List Pr} (ha : (putP a).2 = 0) (hb : (putP b).2 = 0) : (64 < (a ++ b).length → putP (a ++ b) = ([], 3)) ∧ (¬ 64 < (a ++ b).length → putP (a ++ b) = ((putP a).1 ++ (putP b).1, 0)) := by
  obtain ⟨-, a2, a3⟩ := putP_ok ha
  obtain ⟨-, b2, b3⟩ := putP_ok hb
  refine ⟨fun h => putP_long h, fun h => ?_⟩
  rw [a3, b3, ← bytesL_append]
  exact putP_good (by omega) (by rw [List.all_append, a2, b2]; rfl)
theorem putP_size (l : List Pr) : (putP l).1.length ≤ 20480 := by
  unfold putP
  split
  · simp
  · rename_i h
    split
    · rename_i ho
      have := bytesL_len l ho
      show (bytesL l).length ≤ 20480
      omega
    · simp
theorem putP_err (l : List Pr) : (putP l).2 = 0 ∨ (putP l).2 = 1 ∨ (putP l).2 = 3 := by
  unfold putP
  split
  · exact .inr (.inr rfl)
  · split
    · exact .inl rfl
    · exact .inr (.inl rfl)
set_option maxRecDepth 100000 in
set_option maxHeartbeats 20000000 in
theorem textParts_any {S : Nat → Prop} (va vb : Value) (l m : List Pr) (w : World) (hl : PairsAt S w va l) (hb : PairsAt S w vb m) (hm : Mx w) (h1 : l.length ≤ 1048576) (h2 : m.length ≤ 1048576) :
    Calls Tryd.prog 6 #[va, vb] w fun e w' => e = .returned (.bool true) ∧ Below w.heap.size w w' := by
  obtain ⟨A, cA, rfl⟩ := RowAt.slice hl
  obtain ⟨B, cB, rfl⟩ := RowAt.slice hb
  have HL := Lib.hid hl
  have HM := Lib.hid hb
  have Hm := Lib.hid hm
  have HN := Lib.hid (And.intro h1 h2)
  have hlen : (l ++ m).length ≤ 2097152 := by rw [List.length_append]; omega
  have hgl := fun (W : World) (hW : Below w.heap.size w W) => given_big (.slice A l.length cA) l W (hl.keep hW) (by omega)
  have hgm := fun (W : World) (hW : Below w.heap.size w W) => given_big (.slice B m.length cB) m W (hb.keep hW) (by omega)
  have hgn := fun (v : Value) (T : Nat → Prop) (W : World) (hp : PairsAt T W v (l ++ m)) => given_big v (l ++ m) W hp (by omega)
  have hpl := fun (v : Value) (T : Nat → Prop) (W : World) (hp : PairsAt T W v l) => xput_any v l W hp
  have hpm := fun (v : Value) (T : Nat → Prop) (W : World) (hp : PairsAt T W v m) => xput_any v m W hp
  have hpn := fun (v : Value) (T : Nat → Prop) (W : World) (hp : PairsAt T W v (l ++ m)) => xput_any v (l ++ m) W hp
  have hs1 := putP_size l
  have hs2 := putP_size m
  have htwo := putP_two (a := l) (b := m)
  have hboth := putP_both (a := l) (b := m)
  have hml : (l ++ m).length = l.length + m.length := List.length_append
  have hpc := pairCells_append l m
  obtain ⟨lm, hlm⟩ : ∃ x, l ++ m = x := ⟨_, rfl⟩
  rw [hlm] at hgn hpn htwo hboth hml hpc
  obtain ⟨⟨xl, el⟩, hxl⟩ : ∃ r, putP l = r := ⟨_, rfl⟩
  obtain ⟨⟨xm, em⟩, hxm⟩ : ∃ r, putP m = r := ⟨_, rfl⟩
  obtain ⟨⟨xn, en⟩, hxn⟩ : ∃ r, putP lm = r := ⟨_, rfl⟩
  rw [hxl] at hpl hs1 htwo hboth
  rw [hxm] at hpm hs2 htwo hboth
  rw [hxn] at hpn htwo hboth
  simp only at hs1 hs2 htwo hboth
  have HGL := Lib.hid hgl
  have HGM := Lib.hid hgm
  have HGN := Lib.hid hgn
  have HPL := Lib.hid hpl
  have HPM := Lib.hid hpm
  have HPN := Lib.hid hpn
  have HML := Lib.hid (And.intro hml hpc)
  clear hl hb hm h1 h2 hlen hgl hgm hgn hpl hpm hpn hxl hxm hxn hml hpc hlm
  by_cases hok : el = 0 ∧ em = 0
  · obtain ⟨rfl, rfl⟩ := hok
    obtain ⟨hA, hB⟩ := hboth rfl rfl
    clear hboth htwo
    by_cases hl : 64 < lm.length
    · obtain ⟨rfl, rfl⟩ := Prod.mk.inj (hA hl)
      have hl3 : (64 : Int) < lm.length := by omega
      clear hA hB hs1 hs2 hl
      obtain ⟨i0, hi, hz0, hz1, hz2⟩ := info_parts infoRPair
      clear hi hz0 hz1 hz2 i0
      go_enter Tryd.func6, Tryd.ntmps6
      go_wp2_with (first
        | (at_builtin; refine wpList_append_pairs _ rfl (.tmp 12) (.tmp 13) rfl _ _ rfl rfl w.heap.size 0 [] (World.ownsRow_nil _ _ _ _) l HL.out (by have := HN.out; omega) (Nat.le_refl _) ?_; intro v1 w1 ho1 hg1 _; rw [Nat.zero_add, List.nil_append] at ho1; obtain ⟨A1, c1, rfl⟩ := RowAt.slice (RowAt.of_own ho1); have H1 := Lib.hid (And.intro ho1 (below_of_grown hg1)); clear ho1 hg1)
        | (at_builtin; refine wpList_append_pairs _ rfl (.tmp 15) (.tmp 16) rfl _ _ rfl rfl w.heap.size l.length (pairCells l) H1.out.1 m (HM.out.keep H1.out.2) (by have := HN.out; omega) H1.out.2.size ?_; intro v2 w2 ho2 hg2 _; rw [← HML.out.1, ← HML.out.2] at ho2; obtain ⟨A2, c2, rfl⟩ := RowAt.slice (RowAt.of_own ho2); have HB := Lib.hid (below_push H1.out.2 H1.out.1 (Below.refl _ _) hg2); have HP := Lib.hid (show PairsAt (w.heap.size ≤ ·) w2 _ lm from RowAt.of_own ho2); clear ho2 hg2)
        | (go_at_call_of 19 (Value.slice A l.length cA); refine (HGL.out _ HB.out).mono ?_; rintro _ W3 ⟨v3, rfl, hp3, hb3⟩; have HP3 := Lib.hid hp3; have HP := Lib.hid (PairsAt.keep HP.out hb3); have HB := Lib.hid (below_then HB.out hb3); clear hp3 hb3)
        | (go_at_call_of 23 v3; refine (HPL.out _ _ _ HP3.out).mono ?_; rintro _ W4 ⟨v4, rfl, hp4, hb4⟩; have HX := Lib.hid hp4; have HP := Lib.hid (PairsAt.keep HP.out hb4); have HB := Lib.hid (below_then HB.out hb4); clear hp4 hb4)
        | (go_at_call_of 19 (Value.slice B m.length cB); refine (HGM.out _ HB.out).mono ?_; rintro _ W5 ⟨v5, rfl, hp5, hb5⟩; have HP5 := Lib.hid hp5; have HX := Lib.hid (Bytes.keep HX.out hb5); have HP := Lib.hid (PairsAt.keep HP.out hb5); have HB := Lib.hid (below_then HB.out hb5); clear hp5 hb5)
        | (go_at_call_of 23 v5; refine (HPM.out _ _ _ HP5.out).mono ?_; rintro _ W6 ⟨v6, rfl, hp6, hb6⟩; have HY := Lib.hid hp6; have HX := Lib.hid (Bytes.keep HX.out hb6); have HP := Lib.hid (PairsAt.keep HP.out hb6); have HB := Lib.hid (below_then HB.out hb6); clear hp6 hb6)
        | (go_at_call 19; refine (HGN.out _ _ _ HP.out).mono ?_; rintro _ W7 ⟨v7, rfl, hp7, hb7⟩; have HP7 := Lib.hid hp7; have HX := Lib.hid (Bytes.keep HX.out hb7); have HY := Lib.hid (Bytes.keep HY.out hb7); have HB := Lib.hid (below_then HB.out hb7); clear hp7 hb7)
        | (go_at_call_of 23 v7; refine (HPN.out _ _ _ HP7.out).mono ?_; rintro _ W8 ⟨v8, rfl, hp8, hb8⟩; have hsx := bytes_str (Bytes.keep HX.out hb8); have hsy := bytes_str (Bytes.keep HY.out hb8); have hsz := bytes_str hp8; obtain ⟨A8, c8, rfl⟩ := Bytes.slice hp8; have HB := Lib.hid (below_then HB.out hb8); clear hp8 hb8)
        | (go_at_call 13; refine (known_any _ (Hm.out.keep HB.out)).mono ?_; rintro _ W9 ⟨rfl, hb9⟩; have HB := Lib.hid (below_then HB.out hb9); clear hb9))
      go_ret
      exact ⟨rfl, HB.out⟩
    · obtain ⟨hxn, rfl⟩ := Prod.mk.inj (hB hl)
      have hl3 : ¬ (64 : Int) < lm.length := by omega
      have e : (⟨xn.toArray⟩ : ByteArray) = ⟨xl.toArray⟩ ++ ⟨xm.toArray⟩ := by
        rw [hxn]; apply ByteArray.ext; apply Array.toList_inj.1; simp
      obtain ⟨X, hX⟩ : ∃ X : ByteArray, ⟨xl.toArray⟩ = X := ⟨_, rfl⟩
      obtain ⟨Y, hY⟩ : ∃ Y : ByteArray, ⟨xm.toArray⟩ = Y := ⟨_, rfl⟩
      have hXs : X.size ≤ 20480 := by rw [← hX]; simpa [ByteArray.size] using hs1
      have hYs : Y.size ≤ 20480 := by rw [← hY]; simpa [ByteArray.size] using hs2
      rw [hX, hY] at e
      have HXYZ := Lib.hid (And.intro hX (And.intro hY e))
      clear hA hB hs1 hs2 hl hX hY e hxn
      obtain ⟨i0, hi, hz0, hz1, hz2⟩ := info_parts infoRPair
      clear hi hz0 hz1 hz2 i0
      go_enter Tryd.func6, Tryd.ntmps6
      go_wp2_with (first
        | (at_builtin; refine wpList_append_pairs _ rfl (.tmp 12) (.tmp 13) rfl _ _ rfl rfl w.heap.size 0 [] (World.ownsRow_nil _ _ _ _) l HL.out (by have := HN.out; omega) (Nat.le_refl _) ?_; intro v1 w1 ho1 hg1 _; rw [Nat.zero_add, List.nil_append] at ho1; obtain ⟨A1, c1, rfl⟩ := RowAt.slice (RowAt.of_own ho1); have H1 := Lib.hid (And.intro ho1 (below_of_grown hg1)); clear ho1 hg1)
        | (at_builtin; refine wpList_append_pairs _ rfl (.tmp 15) (.tmp 16) rfl _ _ rfl rfl w.heap.size l.length (pairCells l) H1.out.1 m (HM.out.keep H1.out.2) (by have := HN.out; omega) H1.out.2.size ?_; intro v2 w2 ho2 hg2 _; rw [← HML.out.1, ← HML.out.2] at ho2; obtain ⟨A2, c2, rfl⟩ := RowAt.slice (RowAt.of_own ho2); have HB := Lib.hid (below_push H1.out.2 H1.out.1 (Below.refl _ _) hg2); have HP := Lib.hid (show PairsAt (w.heap.size ≤ ·) w2 _ lm from RowAt.of_own ho2); clear ho2 hg2)
        | (go_at_call_of 19 (Value.slice A l.length cA); refine (HGL.out _ HB.out).mono ?_; rintro _ W3 ⟨v3, rfl, hp3, hb3⟩; have HP3 := Lib.hid hp3; have HP := Lib.hid (PairsAt.keep HP.out hb3); have HB := Lib.hid (below_then HB.out hb3); clear hp3 hb3)
        | (go_at_call_of 23 v3; refine (HPL.out _ _ _ HP3.out).mono ?_; rintro _ W4 ⟨v4, rfl, hp4, hb4⟩; have HX := Lib.hid hp4; have HP := Lib.hid (PairsAt.keep HP.out hb4); have HB := Lib.hid (below_then HB.out hb4); clear hp4 hb4)
        | (go_at_call_of 19 (Value.slice B m.length cB); refine (HGM.out _ HB.out).mono ?_; rintro _ W5 ⟨v5, rfl, hp5, hb5⟩; have HP5 := Lib.hid hp5; have HX := Lib.hid (Bytes.keep HX.out hb5); have HP := Lib.hid (PairsAt.keep HP.out hb5); have HB := Lib.hid (below_then HB.out hb5); clear hp5 hb5)
        | (go_at_call_of 23 v5; refine (HPM.out _ _ _ HP5.out).mono ?_; rintro _ W6 ⟨v6, rfl, hp6, hb6⟩; have HY := Lib.hid hp6; have HX := Lib.hid (Bytes.keep HX.out hb6); have HP := Lib.hid (PairsAt.keep HP.out hb6); have HB := Lib.hid (below_then HB.out hb6); clear hp6 hb6)
        | (go_at_call 19; refine (HGN.out _ _ _ HP.out).mono ?_; rintro _ W7 ⟨v7, rfl, hp7, hb7⟩; have HP7 := Lib.hid hp7; have HX := Lib.hid (Bytes.keep HX.out hb7); have HY := Lib.hid (Bytes.keep HY.out hb7); have HB := Lib.hid (below_then HB.out hb7); clear hp7 hb7)
        | (go_at_call_of 23 v7; refine (HPN.out _ _ _ HP7.out).mono ?_; rintro _ W8 ⟨v8, rfl, hp8, hb8⟩; have hsx := bytes_str (Bytes.keep HX.out hb8); have hsy := bytes_str (Bytes.keep HY.out hb8); have hsz := bytes_str hp8; rw [HXYZ.out.1] at hsx; rw [HXYZ.out.2.1] at hsy; rw [HXYZ.out.2.2] at hsz; obtain ⟨A8, c8, rfl⟩ := Bytes.slice hp8; have HB := Lib.hid (below_then HB.out hb8); clear hp8 hb8)
        | (go_at_call 13; refine (known_any _ (Hm.out.keep HB.out)).mono ?_; rintro _ W9 ⟨rfl, hb9⟩; have HB := Lib.hid (below_then HB.out hb9); clear hb9))
      go_ret
      exact ⟨rfl, HB.out⟩
  · obtain ⟨rfl, hen⟩ := htwo hok
    clear htwo hboth hs1 hs2
    by_cases hel : el = 0
    · have hem : ¬ em = 0 := fun h => hok ⟨hel, h⟩
      subst hel
      clear hok
      rcases hen with rfl | rfl
      · skip
        obtain ⟨i0, hi, hz0, hz1, hz2⟩ := info_parts infoRPair
        clear hi hz0 hz1 hz2 i0
        go_enter Tryd.func6, Tryd.ntmps6
        go_wp2_with (first
          | (at_builtin; refine wpList_append_pairs _ rfl (.tmp 12) (.tmp 13) rfl _ _ rfl rfl w.heap.size 0 [] (World.ownsRow_nil _ _ _ _) l HL.out (by have := HN.out; omega) (Nat.le_refl _) ?_; intro v1 w1 ho1 hg1 _; rw [Nat.zero_add, List.nil_append] at ho1; obtain ⟨A1, c1, rfl⟩ := RowAt.slice (RowAt.of_own ho1); have H1 := Lib.hid (And.intro ho1 (below_of_grown hg1)); clear ho1 hg1)
          | (at_builtin; refine wpList_append_pairs _ rfl (.tmp 15) (.tmp 16) rfl _ _ rfl rfl w.heap.size l.length (pairCells l) H1.out.1 m (HM.out.keep H1.out.2) (by have := HN.out; omega) H1.out.2.size ?_; intro v2 w2 ho2 hg2 _; rw [← HML.out.1, ← HML.out.2] at ho2; obtain ⟨A2, c2, rfl⟩ := RowAt.slice (RowAt.of_own ho2); have HB := Lib.hid (below_push H1.out.2 H1.out.1 (Below.refl _ _) hg2); have HP := Lib.hid (show PairsAt (w.heap.size ≤ ·) w2 _ lm from RowAt.of_own ho2); clear ho2 hg2)
          | (go_at_call_of 19 (Value.slice A l.length cA); refine (HGL.out _ HB.out).mono ?_; rintro _ W3 ⟨v3, rfl, hp3, hb3⟩; have HP3 := Lib.hid hp3; have HP := Lib.hid (PairsAt.keep HP.out hb3); have HB := Lib.hid (below_then HB.out hb3); clear hp3 hb3)
          | (go_at_call_of 23 v3; refine (HPL.out _ _ _ HP3.out).mono ?_; rintro _ W4 ⟨v4, rfl, hp4, hb4⟩; have HX := Lib.hid hp4; have HP := Lib.hid (PairsAt.keep HP.out hb4); have HB := Lib.hid (below_then HB.out hb4); clear hp4 hb4)
          | (go_at_call_of 19 (Value.slice B m.length cB); refine (HGM.out _ HB.out).mono ?_; rintro _ W5 ⟨v5, rfl, hp5, hb5⟩; have HP5 := Lib.hid hp5; have HX := Lib.hid (Bytes.keep HX.out hb5); have HP := Lib.hid (PairsAt.keep HP.out hb5); have HB := Lib.hid (below_then HB.out hb5); clear hp5 hb5)
          | (go_at_call_of 23 v5; refine (HPM.out _ _ _ HP5.out).mono ?_; rintro _ W6 ⟨v6, rfl, hp6, hb6⟩; have HY := Lib.hid hp6; have HX := Lib.hid (Bytes.keep HX.out hb6); have HP := Lib.hid (PairsAt.keep HP.out hb6); have HB := Lib.hid (below_then HB.out hb6); clear hp6 hb6)
          | (go_at_call 19; refine (HGN.out _ _ _ HP.out).mono ?_; rintro _ W7 ⟨v7, rfl, hp7, hb7⟩; have HP7 := Lib.hid hp7; have HX := Lib.hid (Bytes.keep HX.out hb7); have HY := Lib.hid (Bytes.keep HY.out hb7); have HB := Lib.hid (below_then HB.out hb7); clear hp7 hb7)
          | (go_at_call_of 23 v7; refine (HPN.out _ _ _ HP7.out).mono ?_; rintro _ W8 ⟨v8, rfl, hp8, hb8⟩; have hsx := bytes_str (Bytes.keep HX.out hb8); have hsy := bytes_str (Bytes.keep HY.out hb8); have hsz := bytes_str hp8; obtain ⟨A8, c8, rfl⟩ := Bytes.slice hp8; have HB := Lib.hid (below_then HB.out hb8); clear hp8 hb8)
          | (go_at_call 13; refine (known_any _ (Hm.out.keep HB.out)).mono ?_; rintro _ W9 ⟨rfl, hb9⟩; have HB := Lib.hid (below_then HB.out hb9); clear hb9))
        go_ret
        exact ⟨rfl, HB.out⟩
      · skip
        obtain ⟨i0, hi, hz0, hz1, hz2⟩ := info_parts infoRPair
        clear hi hz0 hz1 hz2 i0
        go_enter Tryd.func6, Tryd.ntmps6
        go_wp2_with (first
          | (at_builtin; refine wpList_append_pairs _ rfl (.tmp 12) (.tmp 13) rfl _ _ rfl rfl w.heap.size 0 [] (World.ownsRow_nil _ _ _ _) l HL.out (by have := HN.out; omega) (Nat.le_refl _) ?_; intro v1 w1 ho1 hg1 _; rw [Nat.zero_add, List.nil_append] at ho1; obtain ⟨A1, c1, rfl⟩ := RowAt.slice (RowAt.of_own ho1); have H1 := Lib.hid (And.intro ho1 (below_of_grown hg1)); clear ho1 hg1)
          | (at_builtin; refine wpList_append_pairs _ rfl (.tmp 15) (.tmp 16) rfl _ _ rfl rfl w.heap.size l.length (pairCells l) H1.out.1 m (HM.out.keep H1.out.2) (by have := HN.out; omega) H1.out.2.size ?_; intro v2 w2 ho2 hg2 _; rw [← HML.out.1, ← HML.out.2] at ho2; obtain ⟨A2, c2, rfl⟩ := RowAt.slice (RowAt.of_own ho2); have HB := Lib.hid (below_push H1.out.2 H1.out.1 (Below.refl _ _) hg2); have HP := Lib.hid (show PairsAt (w.heap.size ≤ ·) w2 _ lm from RowAt.of_own ho2); clear ho2 hg2)
          | (go_at_call_of 19 (Value.slice A l.length cA); refine (HGL.out _ HB.out).mono ?_; rintro _ W3 ⟨v3, rfl, hp3, hb3⟩; have HP3 := Lib.hid hp3; have HP := Lib.hid (PairsAt.keep HP.out hb3); have HB := Lib.hid (below_then HB.out hb3); clear hp3 hb3)
          | (go_at_call_of 23 v3; refine (HPL.out _ _ _ HP3.out).mono ?_; rintro _ W4 ⟨v4, rfl, hp4, hb4⟩; have HX := Lib.hid hp4; have HP := Lib.hid (PairsAt.keep HP.out hb4); have HB := Lib.hid (below_then HB.out hb4); clear hp4 hb4)
          | (go_at_call_of 19 (Value.slice B m.length cB); refine (HGM.out _ HB.out).mono ?_; rintro _ W5 ⟨v5, rfl, hp5, hb5⟩; have HP5 := Lib.hid hp5; have HX := Lib.hid (Bytes.keep HX.out hb5); have HP := Lib.hid (PairsAt.keep HP.out hb5); have HB := Lib.hid (below_then HB.out hb5); clear hp5 hb5)
          | (go_at_call_of 23 v5; refine (HPM.out _ _ _ HP5.out).mono ?_; rintro _ W6 ⟨v6, rfl, hp6, hb6⟩; have HY := Lib.hid hp6; have HX := Lib.hid (Bytes.keep HX.out hb6); have HP := Lib.hid (PairsAt.keep HP.out hb6); have HB := Lib.hid (below_then HB.out hb6); clear hp6 hb6)
          | (go_at_call 19; refine (HGN.out _ _ _ HP.out).mono ?_; rintro _ W7 ⟨v7, rfl, hp7, hb7⟩; have HP7 := Lib.hid hp7; have HX := Lib.hid (Bytes.keep HX.out hb7); have HY := Lib.hid (Bytes.keep HY.out hb7); have HB := Lib.hid (below_then HB.out hb7); clear hp7 hb7)
          | (go_at_call_of 23 v7; refine (HPN.out _ _ _ HP7.out).mono ?_; rintro _ W8 ⟨v8, rfl, hp8, hb8⟩; have hsx := bytes_str (Bytes.keep HX.out hb8); have hsy := bytes_str (Bytes.keep HY.out hb8); have hsz := bytes_str hp8; obtain ⟨A8, c8, rfl⟩ := Bytes.slice hp8; have HB := Lib.hid (below_then HB.out hb8); clear hp8 hb8)
          | (go_at_call 13; refine (known_any _ (Hm.out.keep HB.out)).mono ?_; rintro _ W9 ⟨rfl, hb9⟩; have HB := Lib.hid (below_then HB.out hb9); clear hb9))
        go_ret
        exact ⟨rfl, HB.out⟩
    · clear hok
      rcases hen with rfl | rfl
      · skip
        obtain ⟨i0, hi, hz0, hz1, hz2⟩ := info_parts infoRPair
        clear hi hz0 hz1 hz2 i0
        go_enter Tryd.func6, Tryd.ntmps6
        go_wp2_with (first
          | (at_builtin; refine wpList_append_pairs _ rfl (.tmp 12) (.tmp 13) rfl _ _ rfl rfl w.heap.size 0 [] (World.ownsRow_nil _ _ _ _) l HL.out (by have := HN.out; omega) (Nat.le_refl _) ?_; intro v1 w1 ho1 hg1 _; rw [Nat.zero_add, List.nil_append] at ho1; obtain ⟨A1, c1, rfl⟩ := RowAt.slice (RowAt.of_own ho1); have H1 := Lib.hid (And.intro ho1 (below_of_grown hg1)); clear ho1 hg1)
          | (at_builtin; refine wpList_append_pairs _ rfl (.tmp 15) (.tmp 16) rfl _ _ rfl rfl w.heap.size l.length (pairCells l) H1.out.1 m (HM.out.keep H1.out.2) (by have := HN.out; omega) H1.out.2.size ?_; intro v2 w2 ho2 hg2 _; rw [← HML.out.1, ← HML.out.2] at ho2; obtain ⟨A2, c2, rfl⟩ := RowAt.slice (RowAt.of_own ho2); have HB := Lib.hid (below_push H1.out.2 H1.out.1 (Below.refl _ _) hg2); have HP := Lib.hid (show PairsAt (w.heap.size ≤ ·) w2 _ lm from RowAt.of_own ho2); clear ho2 hg2)
          | (go_at_call_of 19 (Value.slice A l.length cA); refine (HGL.out _ HB.out).mono ?_; rintro _ W3 ⟨v3, rfl, hp3, hb3⟩; have HP3 := Lib.hid hp3; have HP := Lib.hid (PairsAt.keep HP.out hb3); have HB := Lib.hid (below_then HB.out hb3); clear hp3 hb3)
          | (go_at_call_of 23 v3; refine (HPL.out _ _ _ HP3.out).mono ?_; rintro _ W4 ⟨v4, rfl, hp4, hb4⟩; have HX := Lib.hid hp4; have HP := Lib.hid (PairsAt.keep HP.out hb4); have HB := Lib.hid (below_then HB.out hb4); clear hp4 hb4)
          | (go_at_call_of 19 (Value.slice B m.length cB); refine (HGM.out _ HB.out).mono ?_; rintro _ W5 ⟨v5, rfl, hp5, hb5⟩; have HP5 := Lib.hid hp5; have HX := Lib.hid (Bytes.keep HX.out hb5); have HP := Lib.hid (PairsAt.keep HP.out hb5); have HB := Lib.hid (below_then HB.out hb5); clear hp5 hb5)
          | (go_at_call_of 23 v5; refine (HPM.out _ _ _ HP5.out).mono ?_; rintro _ W6 ⟨v6, rfl, hp6, hb6⟩; have HY := Lib.hid hp6; have HX := Lib.hid (Bytes.keep HX.out hb6); have HP := Lib.hid (PairsAt.keep HP.out hb6); have HB := Lib.hid (below_then HB.out hb6); clear hp6 hb6)
          | (go_at_call 19; refine (HGN.out _ _ _ HP.out).mono ?_; rintro _ W7 ⟨v7, rfl, hp7, hb7⟩; have HP7 := Lib.hid hp7; have HX := Lib.hid (Bytes.keep HX.out hb7); have HY := Lib.hid (Bytes.keep HY.out hb7); have HB := Lib.hid (below_then HB.out hb7); clear hp7 hb7)
          | (go_at_call_of 23 v7; refine (HPN.out _ _ _ HP7.out).mono ?_; rintro _ W8 ⟨v8, rfl, hp8, hb8⟩; have hsx := bytes_str (Bytes.keep HX.out hb8); have hsy := bytes_str (Bytes.keep HY.out hb8); have hsz := bytes_str hp8; obtain ⟨A8, c8, rfl⟩ := Bytes.slice hp8; have HB := Lib.hid (below_then HB.out hb8); clear hp8 hb8)
          | (go_at_call 13; refine (known_any _ (Hm.out.keep HB.out)).mono ?_; rintro _ W9 ⟨rfl, hb9⟩; have HB := Lib.hid (below_then HB.out hb9); clear hb9))
        go_ret
        exact ⟨rfl, HB.out⟩
      · skip
        obtain ⟨i0, hi, hz0, hz1, hz2⟩ := info_parts infoRPair
        clear hi hz0 hz1 hz2 i0
        go_enter Tryd.func6, Tryd.ntmps6
        go_wp2_with (first
          | (at_builtin; refine wpList_append_pairs _ rfl (.tmp 12) (.tmp 13) rfl _ _ rfl rfl w.heap.size 0 [] (World.ownsRow_nil _ _ _ _) l HL.out (by have := HN.out; omega) (Nat.le_refl _) ?_; intro v1 w1 ho1 hg1 _; rw [Nat.zero_add, List.nil_append] at ho1; obtain ⟨A1, c1, rfl⟩ := RowAt.slice (RowAt.of_own ho1); have H1 := Lib.hid (And.intro ho1 (below_of_grown hg1)); clear ho1 hg1)
          | (at_builtin; refine wpList_append_pairs _ rfl (.tmp 15) (.tmp 16) rfl _ _ rfl rfl w.heap.size l.length (pairCells l) H1.out.1 m (HM.out.keep H1.out.2) (by have := HN.out; omega) H1.out.2.size ?_; intro v2 w2 ho2 hg2 _; rw [← HML.out.1, ← HML.out.2] at ho2; obtain ⟨A2, c2, rfl⟩ := RowAt.slice (RowAt.of_own ho2); have HB := Lib.hid (below_push H1.out.2 H1.out.1 (Below.refl _ _) hg2); have HP := Lib.hid (show PairsAt (w.heap.size ≤ ·) w2 _ lm from RowAt.of_own ho2); clear ho2 hg2)
          | (go_at_call_of 19 (Value.slice A l.length cA); refine (HGL.out _ HB.out).mono ?_; rintro _ W3 ⟨v3, rfl, hp3, hb3⟩; have HP3 := Lib.hid hp3; have HP := Lib.hid (PairsAt.keep HP.out hb3); have HB := Lib.hid (below_then HB.out hb3); clear hp3 hb3)
          | (go_at_call_of 23 v3; refine (HPL.out _ _ _ HP3.out).mono ?_; rintro _ W4 ⟨v4, rfl, hp4, hb4⟩; have HX := Lib.hid hp4; have HP := Lib.hid (PairsAt.keep HP.out hb4); have HB := Lib.hid (below_then HB.out hb4); clear hp4 hb4)
          | (go_at_call_of 19 (Value.slice B m.length cB); refine (HGM.out _ HB.out).mono ?_; rintro _ W5 ⟨v5, rfl, hp5, hb5⟩; have HP5 := Lib.hid hp5; have HX := Lib.hid (Bytes.keep HX.out hb5); have HP := Lib.hid (PairsAt.keep HP.out hb5); have HB := Lib.hid (below_then HB.out hb5); clear hp5 hb5)
          | (go_at_call_of 23 v5; refine (HPM.out _ _ _ HP5.out).mono ?_; rintro _ W6 ⟨v6, rfl, hp6, hb6⟩; have HY := Lib.hid hp6; have HX := Lib.hid (Bytes.keep HX.out hb6); have HP := Lib.hid (PairsAt.keep HP.out hb6); have HB := Lib.hid (below_then HB.out hb6); clear hp6 hb6)
          | (go_at_call 19; refine (HGN.out _ _ _ HP.out).mono ?_; rintro _ W7 ⟨v7, rfl, hp7, hb7⟩; have HP7 := Lib.hid hp7; have HX := Lib.hid (Bytes.keep HX.out hb7); have HY := Lib.hid (Bytes.keep HY.out hb7); have HB := Lib.hid (below_then HB.out hb7); clear hp7 hb7)
          | (go_at_call_of 23 v7; refine (HPN.out _ _ _ HP7.out).mono ?_; rintro _ W8 ⟨v8, rfl, hp8, hb8⟩; have hsx := bytes_str (Bytes.keep HX.out hb8); have hsy := bytes_str (Bytes.keep HY.out hb8); have hsz := bytes_str hp8; obtain ⟨A8, c8, rfl⟩ := Bytes.slice hp8; have HB := Lib.hid (below_then HB.out hb8); clear hp8 hb8)
          | (go_at_call 13; refine (known_any _ (Hm.out.keep HB.out)).mono ?_; rintro _ W9 ⟨rfl, hb9⟩; have HB := Lib.hid (below_then HB.out hb9); clear hb9))
        go_ret
        exact ⟨rfl, HB.out⟩
end Go.Proofs.YtmehjcimohhopaaDoor
