/- The law EntriesJoin, walked. No statement is proved here. -/
import Derived.Test.YtoaoldhajpbenaaEntAA
import Derived.Test.YtoaoldhajpbenaaEntX
import Derived.Deep.RegionWith
import Derived.Deep.RegionHeld3
namespace Go.Proofs.Ytoaoldhajpbenaa
open Go.RowKit
attribute [local go_sem ↓] Go.wp_at_zero Go.wp_at_succ

/-- A block of five cells, all known, none frozen. -/
def Five (W : World) (n : Nat) (x y z u v : Value) : Prop :=
  (W.cell? ⟨n, 0, none⟩ = some x ∧ W.cell? ⟨n, 1, none⟩ = some y ∧ W.cell? ⟨n, 2, none⟩ = some z ∧ W.cell? ⟨n, 3, none⟩ = some u ∧ W.cell? ⟨n, 4, none⟩ = some v) ∧
  W.frozen? ⟨n, 0, none⟩ = false ∧ W.frozen? ⟨n, 1, none⟩ = false ∧ W.frozen? ⟨n, 2, none⟩ = false ∧ W.frozen? ⟨n, 3, none⟩ = false ∧ W.frozen? ⟨n, 4, none⟩ = false
theorem Five.keep {W W1 : World} {n : Nat} {x y z u v : Value} (h : Five W n x y z u v) (hb : Below W.heap.size W W1) : Five W1 n x y z u v := by
  have hn := block_lt h.1.1
  exact ⟨⟨cell_keep hb h.1.1, cell_keep hb h.1.2.1, cell_keep hb h.1.2.2.1, cell_keep hb h.1.2.2.2.1, cell_keep hb h.1.2.2.2.2⟩,
    (hb.frozen (p := ⟨n, 0, none⟩) hn).trans h.2.1, (hb.frozen (p := ⟨n, 1, none⟩) hn).trans h.2.2.1, (hb.frozen (p := ⟨n, 2, none⟩) hn).trans h.2.2.2.1, (hb.frozen (p := ⟨n, 3, none⟩) hn).trans h.2.2.2.2.1, (hb.frozen (p := ⟨n, 4, none⟩) hn).trans h.2.2.2.2.2⟩
theorem five_after {W W1 : World} {t : TypeId} {x y z u v : Value} (hb : Below (W.alloc (.cells #[x, y, z, u, v] t)).heap.size (W.alloc (.cells #[x, y, z, u, v] t)) W1) : Five W1 W.heap.size x y z u v := by
  obtain ⟨h0, h1, h2, h3, h4, h5⟩ := cells5 (blk_keep hb (blk_new W _))
  exact ⟨⟨h0, h1, h2, h3, h4⟩, h5⟩
theorem five_after_drew {W W1 : World} {t : TypeId} {x y z u v : Value} (hb : Below (W.alloc (.cells #[x, y, z, u, v] t)).drew.heap.size (W.alloc (.cells #[x, y, z, u, v] t)).drew W1) : Five W1 W.heap.size x y z u v := five_after (W := W) (below_of_drew hb)

/-- All five cells written anew. -/
theorem Five.put {W : World} {n : Nat} {a b c d e x y z u v : Value} (h : Five W n a b c d e) :
    (∀ W', W' = ((((W.setCell ⟨n, 0, none⟩ x).setCell ⟨n, 1, none⟩ y).setCell ⟨n, 2, none⟩ z).setCell ⟨n, 3, none⟩ u).setCell ⟨n, 4, none⟩ v →
      (W'.cell? ⟨n, 0, none⟩ = some x ∧ W'.cell? ⟨n, 1, none⟩ = some y ∧ W'.cell? ⟨n, 2, none⟩ = some z ∧ W'.cell? ⟨n, 3, none⟩ = some u ∧ W'.cell? ⟨n, 4, none⟩ = some v) ∧ Same (· ≠ n) W W' ∧ ∀ w B, B ≤ n → Below B w W → Below B w W') := by
  rintro W' rfl
  obtain ⟨⟨h0, h1, h2, h3, h4⟩, -⟩ := h
  refine ⟨?_, ?_, ?_⟩
  · go_simp
  · exact (((((Same.refl _ _).setCell (by simp) _).setCell (by simp) _).setCell (by simp) _).setCell (by simp) _).setCell (by simp) _
  · intro w B hB hb
    exact ((((hb.setCell hB _).setCell hB _).setCell hB _).setCell hB _).setCell hB _

theorem logB_of {l : List Ent} (h : logB 0 0 7 l = true) : okSeq 0 l = true ∧ l.length ≤ 4096 := by
  have : newB 0 0 7 = true ∧ okSeq 0 l = true ∧ l.length ≤ 4096 := by simpa [logB, and_assoc] using h
  exact this.2
theorem floor7 : FloorOk 0 0 7 := newB_floor (a := 0) (t := 0) (m := 7) rfl

/-- Entries more on a log over the floor at 0. -/
theorem with_two {S : Nat → Prop} (p lv : Value) (l a : List Ent) (w : World) (hp : LogAt S w p (Lg.of 0 0 7 l).parts) (hl : okSeq 0 l = true) (ha : Ents S w lv a) (hn : l.length + a.length ≤ 4096) :
    Calls Try.prog 15 #[p, lv] w fun e w' =>
      ((okSeq 0 (l ++ a) = true ∧ ∃ q, e = .returned (.tuple #[.pointer (some q), .int .i64 0]) ∧ LogAt (fun _ => True) w' (.pointer (some q)) (Lg.of 0 0 7 (l ++ a)).parts) ∨ e = .returned (.tuple #[.pointer none, .int .i64 1])) ∧ Below w.heap.size w w' := by
  obtain ⟨g1, g2, g3, -⟩ := floor7.of hl (by omega)
  refine (with_room p (Lg.of 0 0 7 l) lv a w hp g1 ha (by rw [g2]; exact hn)).mono ?_
  rintro e w' ⟨⟨hok, q, rfl, hq⟩ | ⟨-, rfl⟩, hb⟩
  · obtain ⟨b, sv, vs, rfl, hr⟩ := hq
    refine ⟨.inl ⟨?_, _, rfl, ?_⟩, hb⟩
    · rw [okSeq_append, hl, ← g3, hok]; rfl
    · rw [← Lg.of_adds]
      exact LogAt.mono (S := fun b => S b ∨ w.heap.size ≤ b) ⟨b, sv, vs, rfl, hr⟩ fun _ _ _ => trivial
  · exact ⟨.inr rfl, hb⟩

theorem two_of {l a b : List Ent} (ha : okSeq 0 (l ++ a) = true) (hb : okSeq 0 (l ++ b) = true) (hla : (l ++ a).length ≤ 4096) (hlb : (l ++ b).length ≤ 4096) :
    Two (Lg.of 0 0 7 (l ++ a)) (Lg.of 0 0 7 (l ++ b)) ∧ (Lg.of 0 0 7 (l ++ a)).ents = l ++ a ∧ (Lg.of 0 0 7 (l ++ b)).ents = l ++ b ∧ (Lg.of 0 0 7 (l ++ a)).m = 7 := by
  obtain ⟨g1, g2, -, g4, g5, g6⟩ := floor7.of ha hla
  obtain ⟨h1, h2, -, h4, h5, h6⟩ := floor7.of hb hlb
  exact ⟨⟨g1, h1, g4, h4, g5, h5⟩, g2, h2, g6⟩

/-- What the law asks of the join, said of the logs alone. -/
theorem join_facts {l a b : List Ent} {G H : Lg} (hT : Two G H) (hge : G.ents = l ++ a) (hhe : H.ents = l ++ b) (hm : G.m = 7) (most : Int) :
    ∃ (P es : List Ent) (fr : Int) (X : Lg), H.slice (l.length + 1) most = P ∧ P.length ≤ b.length ∧ G.join l.length (H.termAt l.length) P = ⟨some es, true, l.length + P.length, fr, 0⟩ ∧ X = Lg.of G.a G.t G.m es ∧ X.Good ∧ 0 ≤ fr ∧ fr ≤ l.length + P.length ∧
      (∀ i : Nat, i ≤ l.length + P.length → X.termAt i = H.termAt i) ∧
      (0 < fr → X.slice fr (l.length + P.length) = H.slice fr (l.length + P.length - fr + 1)) ∧
      X.join l.length (H.termAt l.length) P = ⟨some es, true, l.length + P.length, 0, 0⟩ ∧ (fr = 0 ∨ X.top = l.length + P.length) ∧ X.ents = es := by
  have hP : H.slice (l.length + 1) most = (H.ents.drop l.length).take most.toNat := by
    unfold Lg.slice
    by_cases hlt : l.length < H.ents.length
    · rw [if_pos ⟨by rw [hT.ha]; omega, by rw [hT.htop]; omega⟩, hT.ha]
      congr 2
      omega
    · rw [if_neg (by rw [hT.htop]; omega), List.drop_eq_nil_of_le (by omega), List.take_nil]
  obtain ⟨es, fr, X, h1⟩ := hT.joined hm l.length most.toNat (by rw [hge]; simp) (by rw [hhe]; simp) (by rw [hge, hhe, List.take_left, List.take_left]) _ rfl
  refine ⟨_, es, fr, X, hP, ?_, h1⟩
  rw [hhe]; simp; omega

set_option maxRecDepth 100000 in
set_option maxHeartbeats 4000000 in
theorem entriesJoin_any {S : Nat → Prop} (vl va vb : Value) (l a b : List Ent) (most : Int) (w : World) (hl : Ents S w vl l) (ha : Ents S w va a) (hb : Ents S w vb b) (hll : l.length ≤ 140737488355328) :
    Calls Try.prog 4 #[vl, va, vb, .int .i64 most] w fun e w' => e = .returned (.bool true) ∧ Below w.heap.size w w' := by
  have ml := RowAt.le hl.choose_spec.1
  have ma := RowAt.le ha.choose_spec.1
  have mb := RowAt.le hb.choose_spec.1
  unfold maxLen at ml ma mb
  have Hl := Lib.hid hl
  have Ha := Lib.hid ha
  have Hb := Lib.hid hb
  obtain ⟨Al, cl, rfl⟩ := hl.slice
  obtain ⟨Aa, ca, rfl⟩ := ha.slice
  obtain ⟨Ab, cb, rfl⟩ := hb.slice
  have hlog := Lib.hid (log_any 0 0 7 _ l w hl hll)
  have HK := Lib.hid known_any
  clear hl ha hb
  by_cases h40 : l.length ≤ 40 ∧ a.length ≤ 40 ∧ b.length ≤ 40
  rotate_left
  · have h40' : 40 < l.length ∨ (l.length ≤ 40 ∧ 40 < a.length) ∨ (l.length ≤ 40 ∧ a.length ≤ 40 ∧ 40 < b.length) := by omega
    clear h40 hlog
    rcases h40' with h1 | ⟨h1, h2⟩ | ⟨h1, h2, h3⟩
    · have h1' : (40 : Int) < l.length := by omega
      go_enter Try.func4, Try.ntmps4
      go_wp2_with (go_at_call 12; refine (HK.out _).mono ?_; rintro _ w2 ⟨rfl, hb2⟩)
      go_ret
      exact ⟨rfl, hb2⟩
    · have h1' : (l.length : Int) ≤ 40 := by omega
      have h2' : (40 : Int) < a.length := by omega
      go_enter Try.func4, Try.ntmps4
      go_wp2_with (go_at_call 12; refine (HK.out _).mono ?_; rintro _ w2 ⟨rfl, hb2⟩)
      go_ret
      exact ⟨rfl, hb2⟩
    · have h1' : (l.length : Int) ≤ 40 := by omega
      have h2' : (a.length : Int) ≤ 40 := by omega
      have h3' : (40 : Int) < b.length := by omega
      go_enter Try.func4, Try.ntmps4
      go_wp2_with (go_at_call 12; refine (HK.out _).mono ?_; rintro _ w2 ⟨rfl, hb2⟩)
      go_ret
      exact ⟨rfl, hb2⟩
  obtain ⟨h1, h2, h3⟩ := h40
  have h1' : (l.length : Int) ≤ 40 := by omega
  have h2' : (a.length : Int) ≤ 40 := by omega
  have h3' : (b.length : Int) ≤ 40 := by omega
  go_enter Try.func4, Try.ntmps4
  go_wp2_with fail
  refine hlog.out.mono ?_
  rintro _ w1 ⟨hg | ⟨-, rfl⟩, hb1⟩
  rotate_left
  · clear hlog
    go_wp2_with (go_at_call 12; refine (HK.out _).mono ?_; rintro _ w2 ⟨rfl, hb2⟩)
    go_ret
    exact ⟨rfl, below_then hb1 hb2⟩
  obtain ⟨hB, p, rfl, hp⟩ := hg
  obtain ⟨pb, ps, pv, rfl, hpr⟩ := id hp
  have HP := Lib.hid (hp.mono (T := fun _ => True) (fun b _ _ => trivial))
  have Hok := Lib.hid (logB_of hB).1
  clear hp hpr hB hlog
  go_wp2_with fail
  refine (with_two _ _ l a _ HP.out Hok.out ((Ha.out.keep hb1).mono fun _ _ _ => trivial) (by omega)).mono ?_
  rintro _ w2 ⟨hA | rfl, hb2⟩
  rotate_left
  · go_wp2_with fail
    refine (with_two _ _ l b _ (HP.out.keep hb2) Hok.out ((Hb.out.keep (below_then hb1 hb2)).mono fun _ _ _ => trivial) (by omega)).mono ?_
    rintro _ w3 ⟨⟨-, q, rfl, -⟩ | rfl, hb3⟩
    all_goals
      go_wp2_with (go_at_call 12; refine (HK.out _).mono ?_; rintro _ w4 ⟨rfl, hb4⟩)
      go_ret
      exact ⟨rfl, below_then (below_then (below_then hb1 hb2) hb3) hb4⟩
  obtain ⟨hokA, ga, rfl, hga⟩ := hA
  have HokA := Lib.hid hokA
  have Hga := Lib.hid hga
  clear hokA hga
  go_wp2_with fail
  refine (with_two _ _ l b _ (HP.out.keep hb2) Hok.out ((Hb.out.keep (below_then hb1 hb2)).mono fun _ _ _ => trivial) (by omega)).mono ?_
  rintro _ w3 ⟨hBb | rfl, hb3⟩
  rotate_left
  · go_wp2_with (go_at_call 12; refine (HK.out _).mono ?_; rintro _ w4 ⟨rfl, hb4⟩)
    go_ret
    exact ⟨rfl, below_then (below_then (below_then hb1 hb2) hb3) hb4⟩
  obtain ⟨hokB, gb, rfl, hgb⟩ := hBb
  obtain ⟨hT, hge, hhe, hm⟩ := two_of HokA.out hokB (by simp; omega) (by simp; omega)
  have Hga3 := Lib.hid (Hga.out.keep hb3)
  have Hgb := Lib.hid hgb
  clear hokB hgb
  generalize Lg.of 0 0 7 (l ++ a) = G at *
  generalize Lg.of 0 0 7 (l ++ b) = H at *
  obtain ⟨P, es, fr, X, hP, hPl, hJ, hX, hXg, hf0, hf1, hall, hsl, hJ2, htop, hXe⟩ := join_facts hT hge hhe hm most
  have hPl' : P.length ≤ 40 := by omega
  have hPl2 : (P.length : Int) ≤ 40 := by omega
  have b3 := below_then (below_then hb1 hb2) hb3
  have HT := Lib.hid hT
  have HPs := Lib.hid hP
  have HJ := Lib.hid hJ
  have HX := Lib.hid hX
  have HXg := Lib.hid hXg
  have Hall := Lib.hid hall
  have Hsl := Lib.hid hsl
  have HJ2 := Lib.hid hJ2
  have Htop := Lib.hid htop
  have HXe := Lib.hid hXe
  clear hT hge hhe hm hP hJ hX hXg hall hsl hJ2 htop hXe Hga HP Hok HokA
  go_wp2_with fail
  refine (slice_any _ H (l.length + 1) most w3 Hgb.out HT.out.hG).mono ?_
  rintro _ w4 ⟨lv, rfl, hlv, hb4⟩
  rw [HPs.out] at hlv
  obtain ⟨Ap, cp, rfl⟩ := hlv.slice
  have Hlv := Lib.hid (hlv.mono (T := fun _ => True) fun _ _ _ => trivial)
  clear hlv
  go_wp2_with fail
  refine (term_any _ H l.length w4 (Hgb.out.keep hb4) HT.out.hG).mono ?_
  rintro _ w5 ⟨rfl, hb5⟩
  have b45 := below_then hb4 hb5
  have hj := join_any _ G l.length (H.termAt l.length) _ P w5 (Hga3.out.keep b45) HT.out.gG (Hlv.out.keep hb5) ⟨by omega, by omega⟩ (by omega)
  rw [HJ.out] at hj
  obtain ⟨T, hTe⟩ : ∃ T, H.termAt l.length = T := ⟨_, rfl⟩
  rw [hTe] at hj
  rw [hTe]
  have HTe := Lib.hid hTe
  clear hTe
  go_wp2_with fail
  refine hj.mono ?_
  rintro _ w6 ⟨⟨q, he, hq⟩, hb6⟩
  clear hj
  subst he
  replace hq : LogAt (fun b => True ∨ w5.heap.size ≤ b) w6 q (Lg.of G.a G.t G.m es).parts := hq
  rw [← HX.out] at hq
  obtain ⟨xb, xs, xv, rfl, hqr⟩ := id hq
  have HQ := Lib.hid (hq.mono (T := fun _ => True) fun _ _ _ => trivial)
  clear hq hqr
  go_upto_region 13 with fail
  generalize hW6 : w6.alloc (.cells #[.pointer (some ⟨xb, 0, none⟩), .bool true, .int .i64 (l.length + P.length), .int .i64 fr, .int .i64 0] 40) = W6
  have F6 := five_new w6 W6 _ _ _ _ _ _ hW6
  clear hW6
  obtain ⟨⟨x0, x1, x2, x3, x4⟩, hB6⟩ := F6
  generalize w6.heap.size = xn at x0 x1 x2 x3 x4 ⊢
  have b6 := below_then (below_then b45 hb6) hB6
  have HQX := Lib.hid fun (n : Int) W (hb : Below W6.heap.size W6 W) => term_any _ X n W (HQ.out.keep (below_then hB6 hb)) HXg.out
  have HQH := Lib.hid fun (n : Int) W (hb : Below W6.heap.size W6 W) => term_any _ H n W (Hgb.out.keep (below_then b6 hb)) HT.out.hG
  go_wp2_with fail
  go_loopw [17] (fun s17 wr => ∃ k : Nat, k ≤ l.length + P.length + 1 ∧ s17 = .int .i64 k ∧ Below W6.heap.size W6 wr) (fun s17 _ => l.length + P.length + 1 - (intOf s17).toNat)
  case atStart => exact ⟨0, by omega, rfl, Below.refl _ _⟩
  case round =>
    obtain ⟨k, hk, rfl, hbr⟩ := hrel
    have hk82 : (k : Int) ≤ 81 := by omega
    have y2 := cell_keep hbr x2
    by_cases hlt : k ≤ l.length + P.length
    · have hlt2 : (k : Int) ≤ (l.length : Int) + (P.length : Int) := by omega
      have y0 := cell_keep hbr x0
      have ht := HQX.out k wr hbr
      rw [Hall.out k hlt] at ht
      have HT1 := Lib.hid ht
      clear ht
      go_wp2_with fail
      refine HT1.out.mono ?_
      rintro _ w7 ⟨rfl, hb7⟩
      go_wp2_with fail
      refine (HQH.out k w7 (below_then hbr hb7)).mono ?_
      rintro _ w8 ⟨rfl, hb8⟩
      go_wp2_with fail
      go_roundw
      case rel => exact ⟨k + 1, by omega, by simp, below_then (below_then hbr hb7) hb8⟩
      case measure => simp [intOf]; omega
    · have hlt2 : (l.length : Int) + (P.length : Int) < (k : Int) := by omega
      have y1 := cell_keep hbr x1
      have y0 := cell_keep hbr x0
      have y3 := cell_keep hbr x3
      have Z := Lib.hid fun W (hb : Below W6.heap.size W6 W) => (⟨cell_keep hb x0, cell_keep hb x2, cell_keep hb x3⟩ : W.cell? ⟨xn, 0, none⟩ = some (.pointer (some ⟨xb, 0, none⟩)) ∧ W.cell? ⟨xn, 2, none⟩ = some (.int .i64 (l.length + P.length)) ∧ W.cell? ⟨xn, 3, none⟩ = some (.int .i64 fr))
      clear x0 x1 x2 x3 x4 hk82 hlt hk
      go_upto_region 20 with fail
      go_cut [129] (fun s129 wx => s129 = .bool false ∧ Below W6.heap.size W6 wx)
      case first =>
        rcases Int.lt_or_le 0 fr with hfr | hfr
        · obtain ⟨Q, hQ1⟩ : ∃ Q, X.slice fr (l.length + P.length) = Q := ⟨_, rfl⟩
          have hQ2 := Hsl.out hfr
          rw [hQ1] at hQ2
          have HQ1 := Lib.hid hQ1
          have HQ2 := Lib.hid hQ2.symm
          have HSX := Lib.hid fun W (hb : Below W6.heap.size W6 W) => slice_any _ X fr (l.length + P.length) W (HQ.out.keep (below_then hB6 hb)) HXg.out
          have HSH := Lib.hid fun W (hb : Below W6.heap.size W6 W) => slice_any _ H fr (l.length + P.length - fr + 1) W (Hgb.out.keep (below_then b6 hb)) HT.out.hG
          clear hQ1 hQ2
          have e1 : IntKind.i64.wrap ((l.length : Int) + P.length - fr) = (l.length : Int) + P.length - fr := IntWalk.i64_in _ (by omega)
          have e2 : IntKind.i64.wrap ((l.length : Int) + P.length - fr + 1) = (l.length : Int) + P.length - fr + 1 := IntWalk.i64_in _ (by omega)
          go_region_held3 (fun w' => w'.cell? ⟨xn, 0, none⟩ = some (.pointer (some ⟨xb, 0, none⟩)) ∧ w'.cell? ⟨xn, 2, none⟩ = some (.int .i64 (l.length + P.length)) ∧ w'.cell? ⟨xn, 3, none⟩ = some (.int .i64 fr)) (go_keep) (first
            | (go_at_call_of 16 (Value.pointer (some gb)); refine (HSH.out _ (by repeat (first | exact Below.refl _ _ | exact hbr | refine below_then ?_ hbr | exact hb7 | refine below_then ?_ hb7 | refine below_drewN ?_ _ | refine Below.drew ?_ | refine below_alloc ?_ _))).mono ?_; rintro _ w8 ⟨lv8, rfl, hlv8, hb8⟩; rw [HQ2.out] at hlv8; obtain ⟨A8, c8, rfl⟩ := hlv8.slice; have Hlv8 := Lib.hid hlv8; clear hlv8; obtain ⟨z80, z82, z83⟩ := Z.out w8 (by repeat (first | exact Below.refl _ _ | exact hbr | refine below_then ?_ hbr | exact hb7 | refine below_then ?_ hb7 | exact hb8 | refine below_then ?_ hb8 | refine below_drewN ?_ _ | refine Below.drew ?_ | refine below_alloc ?_ _)))
            | (go_at_call 16; refine (HSX.out _ (by repeat (first | exact Below.refl _ _ | exact hbr | refine below_then ?_ hbr | exact hb8 | refine below_then ?_ hb8 | refine below_drewN ?_ _ | refine Below.drew ?_ | refine below_alloc ?_ _))).mono ?_; rintro _ w7 ⟨lv7, rfl, hlv7, hb7⟩; rw [HQ1.out] at hlv7; obtain ⟨A7, c7, rfl⟩ := hlv7.slice; have Hlv7 := Lib.hid hlv7; clear hlv7; obtain ⟨z70, z72, z73⟩ := Z.out w7 (by repeat (first | exact Below.refl _ _ | exact hbr | refine below_then ?_ hbr | exact hb7 | refine below_then ?_ hb7 | exact hb8 | refine below_then ?_ hb8 | refine below_drewN ?_ _ | refine Below.drew ?_ | refine below_alloc ?_ _)))
            | (go_at_call 18; refine (same_eq _ _ Q _ (Hlv7.out.keep (by repeat (first | exact Below.refl _ _ | exact hbr | refine below_then ?_ hbr | exact hb7 | refine below_then ?_ hb7 | exact hb8 | refine below_then ?_ hb8 | refine below_drewN ?_ _ | refine Below.drew ?_ | refine below_alloc ?_ _))) (Hlv8.out.keep (by repeat (first | exact Below.refl _ _ | exact hbr | refine below_then ?_ hbr | exact hb7 | refine below_then ?_ hb7 | exact hb8 | refine below_then ?_ hb8 | refine below_drewN ?_ _ | refine Below.drew ?_ | refine below_alloc ?_ _)))).mono ?_; rintro _ w9 ⟨rfl, hd9⟩; have hb9 := hd9.below; obtain ⟨z90, z92, z93⟩ := Z.out w9 (by repeat (first | exact Below.refl _ _ | exact hbr | refine below_then ?_ hbr | exact hb7 | refine below_then ?_ hb7 | exact hb8 | refine below_then ?_ hb8 | exact hb9 | refine below_then ?_ hb9 | refine below_drewN ?_ _ | refine Below.drew ?_ | refine below_alloc ?_ _))))
          all_goals
            go_wp2_with fail
            go_meet
            exact ⟨rfl, (by repeat (first | exact Below.refl _ _ | exact hbr | refine below_then ?_ hbr | exact hb7 | refine below_then ?_ hb7 | exact hb8 | refine below_then ?_ hb8 | exact hb9 | refine below_then ?_ hb9 | refine below_drewN ?_ _ | refine Below.drew ?_ | refine below_alloc ?_ _))⟩
        · obtain rfl : fr = 0 := by omega
          go_quiet (fail)
          go_wp2_with fail
          go_meet
          exact ⟨rfl, below_drewN hbr _⟩
      case rest =>
        obtain ⟨rfl, hbc⟩ := hcut
        have HJX := Lib.hid fun W (hb : Below W6.heap.size W6 W) => join_any (S := (· < W6.heap.size)) _ X l.length (H.termAt l.length) (.slice Ap P.length cp) P W (((HQ.out.keep hB6).mono fun b hb _ => hb).keep hb) HXg.out (((Hlv.out.keep (below_then (below_then hb5 hb6) hB6)).mono fun b hb _ => hb).keep hb) ⟨by omega, by omega⟩ (by omega)
        go_upto_region 22 with fail
        obtain ⟨za0, za2, za3⟩ := Z.out wc hbc
        go_cut [18] (fun s18 wx => ∃ (yb : Addr) (yn : Nat), s18 = .pointer (some ⟨yn, 0, none⟩) ∧ wx.cell? ⟨yn, 0, none⟩ = some (.pointer (some yb)) ∧ wx.cell? ⟨yn, 1, none⟩ = some (.bool true) ∧ wx.cell? ⟨yn, 2, none⟩ = some (.int .i64 (l.length + P.length)) ∧ wx.cell? ⟨yn, 3, none⟩ = some (.int .i64 0) ∧
          LogAt (fun _ => True) wx (.pointer (some yb)) X.parts ∧ Below W6.heap.size W6 wx)
        case first =>
          have hxc : xn < wc.heap.size := block_lt za0
          have hnc : ¬ wc.heap.size = xn := by omega
          have hmc : ¬ xn = wc.heap.size := by omega
          go_region_held3 (fun w' => w'.cell? ⟨xn, 0, none⟩ = some (.pointer (some ⟨xb, 0, none⟩))) (go_keep) (first
            | (go_at_call 14; refine (HQH.out _ _ (by repeat (first | exact Below.refl _ _ | exact hbc | refine below_then ?_ hbc | refine below_drewN ?_ _ | refine Below.drew ?_ | refine below_alloc ?_ _))).mono ?_; rintro _ w9 ⟨rfl, hb9⟩; (first | (have F9 := Lib.hid (five_after_drew hb9); obtain ⟨⟨va0, va1, va2, va3, va4⟩, vb0, vb1, vb2, vb3, vb4⟩ := F9.out) | have F9 := Lib.hid trivial); obtain ⟨z90, z92, z93⟩ := Z.out w9 (by repeat (first | exact Below.refl _ _ | exact hbc | refine below_then ?_ hbc | exact hb9 | refine below_then ?_ hb9 | refine below_drewN ?_ _ | refine Below.drew ?_ | refine below_alloc ?_ _)); have hx9 : xn < w9.heap.size := block_lt z90; have hn9 : ¬ w9.heap.size = xn := (by omega); have hm9 : ¬ xn = w9.heap.size := (by omega))
            | (go_at_call 17; refine (HJX.out _ (by repeat (first | exact Below.refl _ _ | exact hbc | refine below_then ?_ hbc | exact hb9 | refine below_then ?_ hb9 | refine below_drewN ?_ _ | refine Below.drew ?_ | refine below_alloc ?_ _))).mono ?_; rintro _ w10 ⟨⟨q2, he2, hq2⟩, hb10⟩; rw [HJ2.out] at he2 hq2; subst he2; replace hq2 : LogAt _ w10 q2 (Lg.of X.a X.t X.m es).parts := hq2; obtain ⟨yb, ys, yv, rfl, hyr⟩ := id hq2; have HQ2 := Lib.hid hq2; clear hq2 hyr; (first | (have F10 := five_after hb10; obtain ⟨⟨va0, va1, va2, va3, va4⟩, vb0, vb1, vb2, vb3, vb4⟩ := F10) | (have F10 := Five.keep F9.out hb10; obtain ⟨⟨va0, va1, va2, va3, va4⟩, vb0, vb1, vb2, vb3, vb4⟩ := F10) | skip); obtain ⟨z100, z102, z103⟩ := Z.out w10 (by repeat (first | exact Below.refl _ _ | exact hbc | refine below_then ?_ hbc | exact hb9 | refine below_then ?_ hb9 | exact hb10 | refine below_then ?_ hb10 | refine below_drewN ?_ _ | refine Below.drew ?_ | refine below_alloc ?_ _)); have hx10 : xn < w10.heap.size := block_lt z100))
          all_goals
            have hbz := hbc.size
            have hX := HXg.out.eq_of
            rw [HXe.out] at hX
            rw [← hX] at HQ2
            have hz9 := hb9.size
            simp at hz9
            clear HK Hl Ha Hb Z HJX HQX HQH
            go_wp2_with fail
            go_meet
            first
              | (have hW : ∃ W, w10.alloc (.cells #[.pointer (some ⟨yb, 0, none⟩), .bool true, .int .i64 (l.length + P.length), .int .i64 0, .int .i64 0] 40) = W := ⟨_, rfl⟩
                 obtain ⟨W, hW⟩ := hW
                 rw [hW]
                 obtain ⟨⟨c0, c1, c2, c3, c4⟩, hbA⟩ := five_new w10 W _ _ _ _ _ _ hW
                 exact ⟨⟨yb, 0, none⟩, w10.heap.size, rfl, c0, c1, c2, c3, (HQ2.out.keep hbA).mono (fun _ _ _ => trivial), (by repeat (first | exact Below.refl _ _ | exact hbc | refine below_then ?_ hbc | exact hb9 | refine below_then ?_ hb9 | exact hb10 | refine below_then ?_ hb10 | exact hbA | refine below_then ?_ hbA | refine below_drewN ?_ _ | refine Below.drew ?_ | refine below_alloc ?_ _))⟩)
              | (have hput := Five.put (x := .pointer (some ⟨yb, 0, none⟩)) (y := .bool true) (z := .int .i64 (l.length + P.length)) (u := .int .i64 0) (v := .int .i64 0) ⟨⟨va0, va1, va2, va3, va4⟩, vb0, vb1, vb2, vb3, vb4⟩
                 obtain ⟨⟨c0, c1, c2, c3, c4⟩, hs, hbw⟩ := hput _ rfl
                 refine ⟨⟨yb, 0, none⟩, _, rfl, c0, c1, c2, c3, ((HQ2.out.mono (fun b _ hb => ?_)).keepS hs).mono (fun _ _ _ => trivial), hbw _ _ ?_ (by repeat (first | exact Below.refl _ _ | exact hbc | refine below_then ?_ hbc | exact hb9 | refine below_then ?_ hb9 | exact hb10 | refine below_then ?_ hb10 | refine below_drewN ?_ _ | refine Below.drew ?_ | refine below_alloc ?_ _))⟩
                 · rintro rfl
                   have hF := F9.out
                   rcases hb with hb | hb
                   · omega
                   · first
                     | (rw [World.size_alloc] at hb; omega)
                     | (have := block_lt hF.1.1; omega)
                 · omega)
        case rest =>
          obtain ⟨yb, yn, rfl, c0, c1, c2, c3, hlog, hbd⟩ := hcut
          obtain ⟨zd0, zd2, zd3⟩ := Z.out wc hbd
          have Hlog := Lib.hid hlog
          have HTop := Lib.hid fun W (hb : Below W6.heap.size W6 W) => top_run _ X W (HQ.out.keep (below_then hB6 hb)) HXg.out
          clear hlog Hl Ha Hb HJX HQX HQH
          go_wp2_with fail
          refine (HTop.out _ hbd).mono ?_
          rintro _ w11 ⟨rfl, hb11⟩
          have d0 := cell_keep hb11 c0
          go_wp2_with fail
          refine (top_run _ X _ (Hlog.out.keep hb11) HXg.out).mono ?_
          rintro _ w12 ⟨rfl, hb12⟩
          obtain ⟨ze0, ze2, ze3⟩ := Z.out w12 (below_then (below_then hbd hb11) hb12)
          have hb012 := below_then (below_then (below_then b3 b6) (below_then hbd hb11)) hb12
          by_cases hfr : fr = 0
          · subst hfr
            go_wp2_with (go_at_call 12; refine (HK.out _).mono ?_; rintro _ w13 ⟨rfl, hb13⟩)
            go_ret
            exact ⟨rfl, below_then hb012 hb13⟩
          · have ht := Htop.out.resolve_left hfr
            rw [ht]
            go_wp2_with (go_at_call 12; refine (HK.out _).mono ?_; rintro _ w13 ⟨rfl, hb13⟩)
            go_ret
            exact ⟨rfl, below_then hb012 hb13⟩
end Go.Proofs.Ytoaoldhajpbenaa
