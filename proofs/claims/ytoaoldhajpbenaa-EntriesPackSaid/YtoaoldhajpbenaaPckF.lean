/- The law EntriesPack walked. No statement is proved here. -/
import Derived.Test.YtoaoldhajpbenaaPckE
import Derived.Test.YtoaoldhajpbenaaSumA
import Derived.Test.YtoaoldhajpbenaaEntU
namespace Go.Proofs.Ytoaoldhajpbenaa
open Go.RowKit

def packOf (e : Ent) : List UInt8 × Int := if rightB e = true then (encE e, 0) else ([], 1)
theorem epack_any {S : Nat → Prop} (e : Ent) (y : Value) (w : World) (hp : Bytes S w y e.cmd) :
    Calls Try.prog 27 #[.agg #[.int .i64 e.kind, .int .i64 e.term, y]] w fun r w' => ∃ v, r = .returned (.tuple #[v, .int .i64 (packOf e).2]) ∧ Bytes (w.heap.size ≤ ·) w' v (packOf e).1 ∧ Below w.heap.size w w' := by
  unfold packOf
  by_cases hr : rightB e = true
  · rw [if_pos hr]; exact epack_yes e y w hp hr
  · rw [if_neg hr]
    exact (epack_no e y w hp (by simpa using hr)).mono (by rintro _ w' ⟨rfl, hb⟩; exact ⟨_, rfl, ⟨rfl, .inl ⟨rfl, .inl rfl⟩⟩, hb⟩)
theorem qpack_any {S : Nat → Prop} (e : Ent) (y : Value) (w : World) (hp : Bytes S w y e.cmd) :
    Calls Try.prog 28 #[.agg #[.int .i64 e.kind, .int .i64 e.term, y]] w fun r w' => ∃ v, r = .returned (.tuple #[v, .int .i64 (packOf e).2]) ∧ Bytes (w.heap.size ≤ ·) w' v (packOf e).1 ∧ Below w.heap.size w w' := by
  unfold packOf
  by_cases hr : rightB e = true
  · rw [if_pos hr]; exact qpack_yes e y w hp hr
  · rw [if_neg hr]
    exact (qpack_no e y w hp (by simpa using hr)).mono (by rintro _ w' ⟨rfl, hb⟩; exact ⟨_, rfl, ⟨rfl, .inl ⟨rfl, .inl rfl⟩⟩, hb⟩)

theorem unp_in (xs : List UInt8) : in64 (unpOf xs).1.kind ∧ in64 (unpOf xs).1.term := by
  have h := rdEnt_in (xs, 0)
  unfold unpOf
  by_cases he : endOf (rdEnt (xs, 0)).2.1 (rdEnt (xs, 0)).2.2 ≠ 0
  · rw [if_pos he]; exact ⟨⟨by show _ ≤ (0 : Int); decide, by show (0 : Int) ≤ _; decide⟩, ⟨by show _ ≤ (0 : Int); decide, by show (0 : Int) ≤ _; decide⟩⟩
  · rw [if_neg he]
    by_cases hr : rightB (rdEnt (xs, 0)).1 = true
    · rw [if_pos hr]; exact ⟨⟨by show _ ≤ (rdEnt (xs, 0)).1.kind; omega, by show (rdEnt (xs, 0)).1.kind ≤ _; omega⟩, ⟨by show _ ≤ (rdEnt (xs, 0)).1.term; omega, by show (rdEnt (xs, 0)).1.term ≤ _; omega⟩⟩
    · rw [if_neg hr]; exact ⟨⟨by show _ ≤ (0 : Int); decide, by show (0 : Int) ≤ _; decide⟩, ⟨by show _ ≤ (0 : Int); decide, by show (0 : Int) ≤ _; decide⟩⟩
theorem unp_len (xs : List UInt8) : (unpOf xs).1.cmd.length ≤ 4080 := by
  unfold unpOf
  by_cases he : endOf (rdEnt (xs, 0)).2.1 (rdEnt (xs, 0)).2.2 ≠ 0
  · rw [if_pos he]; exact Nat.zero_le _
  · rw [if_neg he]
    by_cases hr : rightB (rdEnt (xs, 0)).1 = true
    · rw [if_pos hr]; exact (rightB_facts hr).2.2.2.2
    · rw [if_neg hr]; exact Nat.zero_le _

/-- A slice of one entry that was just made. -/
theorem ents_new {S : Nat → Prop} (w : World) (k t : Int) (v : Value) (c : List UInt8) (hk : in64 k) (ht : in64 t) (hv : Bytes S w v c) (hS : S w.heap.size) :
    Ents S (w.alloc (.cells #[.int .i64 k, .int .i64 t, v] 33)) (.slice (some ⟨w.heap.size, 0, none⟩) 1 1) [⟨k, t, c⟩] := by
  refine ⟨[.int .i64 k, .int .i64 t, v], ⟨rfl, .inr ⟨w.heap.size, 0, 1, rfl, Nat.le_refl _, by unfold maxLen; omega, hS, by simp, fun i u hu => ?_⟩⟩, v, [], rfl, hk, ht, hv.keep (box_below _ _), rfl⟩
  rw [Nat.zero_add, cell_of_row _ _ _ _ _ _ (blk_new w _)]
  simpa using hu
theorem LentAt.bytes {B : Nat} {w : World} {v : Value} {xs : List UInt8} (h : LentAt B w v xs) : Bytes (B ≤ ·) w v xs := by
  obtain ⟨g, cap, rfl, hown⟩ := h
  obtain ⟨hcap, hcm⟩ : xs.length + 1 ≤ cap ∧ cap ≤ maxLen := by
    rcases hown.2 with ⟨_, h⟩ | ⟨g, cap', cur, h, _, _, h1, h2, _⟩
    · omega
    · injection h with _ _ h
      subst h
      exact ⟨h1, h2⟩
  have h2 := RowAt.cut (sz := 1) (RowAt.of_own hown) 0 xs.length cap (by omega) (by omega) hcm
  unfold Bytes
  simpa [byteCells_append, byteCells_length] using h2
theorem own_apart {w : World} {B n sz : Nat} {e : TypeId} {v : Value} {cs : List Value} {o : Option Nat} (h : w.ownsRow B e sz v n cs) (ho : ∀ k, o = some k → k < B) : v.ownBlock = none ∨ v.ownBlock ≠ o := by
  cases hv : v.ownBlock with
  | none => exact .inl rfl
  | some k =>
    right
    intro h2
    have := ho k h2.symm
    have := own_blk_ge h k hv
    omega
theorem lent_keep {B : Nat} {w w' : World} {v : Value} {xs : List UInt8} (h : LentAt B w v xs) (hb : Below w.heap.size w w') : LentAt B w' v xs := by
  obtain ⟨g, cap, rfl, h⟩ := h
  exact ⟨g, cap, rfl, own_keep h hb⟩

set_option maxRecDepth 100000 in
set_option maxHeartbeats 4000000 in
theorem entriesPack_any {S : Nat → Prop} (k t : Int) (y v : Value) (cmd xs : List UInt8) (w : World) (hk : in64 k) (ht : in64 t) (hy : Bytes S w y cmd) (hv : Bytes S w v xs) (hx : xs.length < 140737488355328) :
    Calls Try.prog 8 #[.agg #[.int .i64 k, .int .i64 t, y], v] w fun e w' => e = .returned (.bool true) ∧ Below w.heap.size w w' := by
  have b1 := box_below w (.cells #[.int .i64 k, .int .i64 t, y] 33)
  have E1 := blk_new w (.cells #[.int .i64 k, .int .i64 t, y] 33)
  obtain ⟨W1, hW1⟩ : ∃ W, w.alloc (.cells #[.int .i64 k, .int .i64 t, y] 33) = W := ⟨_, rfl⟩
  rw [hW1] at b1 E1
  have hL := lent_any S v xs W1 (hv.keep b1) hx
  have HL := Lib.hid hL
  have HB1 := Lib.hid b1
  have HE1 := Lib.hid E1
  have Hy := Lib.hid hy
  have Hv := Lib.hid hv
  have Hin := Lib.hid (And.intro hk (And.intro ht hx))
  obtain ⟨A, cA, rfl⟩ := hy.slice
  obtain ⟨B, cB, rfl⟩ := hv.slice
  clear hL b1 E1 hy hv hk ht hx
  go_enter Try.func8, Try.ntmps8
  go_wp2_with fail
  refine HL.out.mono ?_
  rintro _ W2 ⟨u, rfl, hl, hb⟩
  have HB2 := Lib.hid (HB1.out.trans (hb.mono HB1.out.size))
  have hE2 := blk_keep hb HE1.out
  obtain ⟨g, cap, rfl, hown⟩ := id hl
  have HLt := Lib.hid hl
  obtain ⟨e0, e1, e2, -, -, -⟩ := cells3 hE2
  have HE2 := Lib.hid hE2
  clear HL hl hb hown hE2
  go_wp2_with fail
  refine (epack_any (S := S) ⟨k, t, cmd⟩ (.slice A cmd.length cA) W2 (Hy.out.keep HB2.out)).mono ?_
  rintro _ W3 ⟨x, rfl, hX, hb⟩
  obtain ⟨AX, cX, rfl⟩ := hX.slice
  have HX := Lib.hid hX
  have HLt := Lib.hid (lent_keep HLt.out hb)
  have HB3 := Lib.hid (below_then HB2.out hb)
  have hE3 := blk_keep hb HE2.out
  obtain ⟨e0, e1, e2, -, -, -⟩ := cells3 hE3
  have HE3 := Lib.hid hE3
  clear hX hb hE3
  go_wp2_with fail
  refine (qpack_any (S := S) ⟨k, t, cmd⟩ (.slice A cmd.length cA) W3 (Hy.out.keep HB3.out)).mono ?_
  rintro _ W4 ⟨y, rfl, hY, hb⟩
  obtain ⟨AY, cY, rfl⟩ := hY.slice
  have HY := Lib.hid hY
  have HX := Lib.hid (HX.out.keep hb)
  have HLt := Lib.hid (lent_keep HLt.out hb)
  have HB4 := Lib.hid (below_then HB3.out hb)
  have HE4 := Lib.hid (blk_keep hb HE3.out)
  clear hY hb
  have HX4 := HX
  have HLt4 := HLt
  have hlb := LentAt.bytes HLt.out
  have HU := Lib.hid (eunpack_any _ _ xs W4 hlb (by have := Hin.out; omega))
  clear hlb
  go_wp2_with fail
  have hui := unp_in xs
  have huinv := unp_inv xs
  have hunl := unp_len xs
  have HQ0 := Lib.hid fun W hW => qunpack_any S (.slice B xs.length cB) xs W hW (by have := Hin.out; omega)
  have HU := HU
  obtain ⟨r, hr⟩ : ∃ r, r = unpOf xs := ⟨_, rfl⟩
  rw [← hr] at hui huinv HU HQ0 hunl
  obtain ⟨⟨k2, t2, c2⟩, f2⟩ := r
  simp only at hui huinv HU HQ0 hunl
  have Hui := Lib.hid (And.intro hui (And.intro huinv hunl))
  clear hr hui huinv hunl
  refine HU.out.mono ?_
  rintro _ W5 ⟨p, rfl, hp, hb⟩
  obtain ⟨AP, cP, rfl⟩ := (RowAt.of_own hp).slice
  have b6 := below_alloc hb (.cells #[.int .i64 k2, .int .i64 t2, .slice AP c2.length cP] 33)
  have P6 := blk_new W5 (.cells #[.int .i64 k2, .int .i64 t2, .slice AP c2.length cP] 33)
  have hp6 := own_keep hp (box_below W5 (.cells #[.int .i64 k2, .int .i64 t2, .slice AP c2.length cP] 33))
  have hwz : W4.heap.size ≤ W5.heap.size := hb.size
  obtain ⟨W6, hW6⟩ : ∃ W, W5.alloc (.cells #[.int .i64 k2, .int .i64 t2, .slice AP c2.length cP] 33) = W := ⟨_, rfl⟩
  rw [hW6] at b6 P6 hp6
  have HX := Lib.hid (HX.out.keep b6)
  have HY := Lib.hid (HY.out.keep b6)
  have HLt := Lib.hid (lent_keep HLt.out b6)
  have HB6 := Lib.hid (below_then HB4.out b6)
  have HC6 := Lib.hid b6
  have HE6 := Lib.hid (blk_keep b6 HE4.out)
  have HP6 := Lib.hid P6
  have Hp6 := Lib.hid hp6
  clear b6 P6 hp6 hp hb HU
  have HQ := Lib.hid (HQ0.out W6 (Hv.out.keep HB6.out))
  clear HQ0
  go_wp2_with fail
  clear hW6
  refine HQ.out.mono ?_
  rintro _ W7 ⟨q, rfl, hq, hb⟩
  obtain ⟨AQ, cQ, rfl⟩ := (RowAt.of_own hq).slice
  have b8 := below_alloc hb (.cells #[.int .i64 k2, .int .i64 t2, .slice AQ c2.length cQ] 33)
  have Q8 := blk_new W7 (.cells #[.int .i64 k2, .int .i64 t2, .slice AQ c2.length cQ] 33)
  have hq8 := own_keep hq (box_below W7 (.cells #[.int .i64 k2, .int .i64 t2, .slice AQ c2.length cQ] 33))
  have hwz7 : W6.heap.size ≤ W7.heap.size := hb.size
  obtain ⟨W8, hW8⟩ : ∃ W, W7.alloc (.cells #[.int .i64 k2, .int .i64 t2, .slice AQ c2.length cQ] 33) = W := ⟨_, rfl⟩
  rw [hW8] at b8 Q8 hq8
  have HX := Lib.hid (HX.out.keep b8)
  have HY := Lib.hid (HY.out.keep b8)
  have HLt := Lib.hid (lent_keep HLt.out b8)
  have HB8 := Lib.hid (below_then HB6.out b8)
  have HC8 := Lib.hid (below_then HC6.out b8)
  have HD8 := Lib.hid b8
  have HE8 := Lib.hid (blk_keep b8 HE6.out)
  have HP8 := Lib.hid (blk_keep b8 HP6.out)
  have Hp8 := Lib.hid (own_keep Hp6.out b8)
  have HQ8 := Lib.hid Q8
  have Hq8 := Lib.hid hq8
  have sx := bytes_str HX.out
  have sy := bytes_str HY.out
  obtain ⟨pp0, pp1, pp2, -, -, -⟩ := cells3 HP8.out
  obtain ⟨qq0, qq1, qq2, -, -, -⟩ := cells3 HQ8.out
  have qa0 := fun o => cell_keep (box_below W8 o) qq0
  have qa1 := fun o => cell_keep (box_below W8 o) qq1
  have qa2 := fun o => cell_keep (box_below W8 o) qq2
  clear b8 Q8 hq8 hq hb HQ
  go_wp2_with fail
  clear qa0 qa1 qa2 sx sy
  have s1 := ents_new (S := fun _ => True) W8 k2 t2 (.slice AP c2.length cP) c2 Hui.out.1.1 Hui.out.1.2 (RowAt.mono (RowAt.of_own Hp8.out) fun _ _ _ => trivial) trivial
  have bb1 := box_below W8 (.cells #[.int .i64 k2, .int .i64 t2, .slice AP c2.length cP] 33)
  have s2 := ents_new (S := fun _ => True) (W8.alloc (.cells #[.int .i64 k2, .int .i64 t2, .slice AP c2.length cP] 33)) k2 t2 (.slice AQ c2.length cQ) c2 Hui.out.1.1 Hui.out.1.2 (RowAt.mono (RowAt.of_own (own_keep Hq8.out bb1)) fun _ _ _ => trivial) trivial
  have bb2 := box_below (W8.alloc (.cells #[.int .i64 k2, .int .i64 t2, .slice AP c2.length cP] 33)) (.cells #[.int .i64 k2, .int .i64 t2, .slice AQ c2.length cQ] 33)
  have bb := below_then bb1 bb2
  refine (same_eq _ _ [⟨k2, t2, c2⟩] _ (s1.keep bb2) (by simpa using s2)).mono ?_
  rintro _ W9 ⟨rfl, hD⟩
  have bd := below_then bb hD.below
  have HB9 := Lib.hid (below_then HB8.out bd)
  have HC9 := Lib.hid (below_then HC8.out bd)
  have HX := Lib.hid (HX.out.keep bd)
  have HLt := Lib.hid (lent_keep HLt.out bd)
  have HE9 := Lib.hid (blk_keep bd HE8.out)
  have HP9 := Lib.hid (blk_keep bd HP8.out)
  have Hp9 := Lib.hid (own_keep Hp8.out bd)
  have HQ9 := Lib.hid (blk_keep bd HQ8.out)
  have Hq9 := Lib.hid (own_keep Hq8.out bd)
  obtain ⟨pp0, pp1, pp2, -, -, -⟩ := cells3 HP9.out
  obtain ⟨qq0, qq1, qq2, -, -, -⟩ := cells3 HQ9.out
  have HK := Lib.hid (kept_any S _ _ _ xs W9 HLt.out (Hv.out.keep HB9.out) Hin.out.2.2)
  clear s1 s2 bb1 bb2 bb hD bd
  go_wp2_with (go_at_call 31; refine HK.out.mono ?_; rintro _ _ ⟨rfl, rfl⟩)
  have hpl : ∀ k, (Value.slice AP c2.length cP).ownBlock = some k → W4.heap.size ≤ k ∧ k < W6.heap.size := fun k hk => ⟨own_blk_ge Hp6.out k hk, own_blk_lt Hp6.out k hk⟩
  refine (spoil_any W4.heap.size _ _ _ W9 Hp9.out (by have := Hui.out.2.2; omega) HC9.out.size).mono ?_
  rintro _ W10 ⟨⟨v10, rfl⟩, hg⟩
  have bg : Below W4.heap.size W9 W10 := (Below.refl _ _).grown hg HC9.out.size (fun k hk => (hpl k hk).1)
  have HC10 := Lib.hid (HC9.out.trans bg)
  have HB10 := Lib.hid (HB4.out.trans (HC10.out.mono HB4.out.size))
  have HX := Lib.hid (HX4.out.keep HC10.out)
  have HLt := Lib.hid (lent_keep HLt4.out HC10.out)
  have hQ10 := grown_blk hg (b := W7.heap.size) (by intro h; have := hpl _ h.symm; omega) HQ9.out
  have hq10 : W10.ownsRow W6.heap.size 5 1 (.slice AQ c2.length cQ) c2.length (byteCells c2) := Hq9.out.kept hg (own_apart Hq9.out (fun k hk => (hpl k hk).2))
  have HE10 := Lib.hid (blk_keep HC10.out HE4.out)
  obtain ⟨qq0, qq1, qq2, -, -, -⟩ := cells3 hQ10
  have HQ10 := Lib.hid hQ10
  have Hq10 := Lib.hid hq10
  have HK := Lib.hid (kept_any S _ _ _ xs W10 HLt.out (Hv.out.keep HB10.out) Hin.out.2.2)
  clear hpl hg bg hQ10 hq10
  by_cases hf2 : f2 = 0
  · subst hf2
    obtain ⟨hrq, heq⟩ := Hui.out.2.1 rfl
    have hpk := epack_yes ⟨k2, t2, c2⟩ (.slice AQ c2.length cQ) W10 (RowAt.of_own Hq10.out) hrq
    rw [heq] at hpk
    have Hpk := Lib.hid hpk
    clear hrq heq hpk
    go_wp2_with (go_at_call 31; refine HK.out.mono ?_; rintro _ _ ⟨rfl, rfl⟩)
    refine Hpk.out.mono ?_
    rintro _ W11 ⟨z, rfl, hZ, hb⟩
    obtain ⟨AZ, cZ, rfl⟩ := hZ.slice
    have HB11 := Lib.hid (below_then HB10.out hb)
    have HX := Lib.hid (HX.out.keep hb)
    have HE11 := Lib.hid (blk_keep hb HE10.out)
    have sz := bytes_str hZ
    have sb := bytes_str (Hv.out.keep HB11.out)
    clear hZ hb Hpk
    by_cases hr : rightB ⟨k, t, cmd⟩ = true
    · have hpo : packOf ⟨k, t, cmd⟩ = (encE ⟨k, t, cmd⟩, 0) := by unfold packOf; rw [if_pos hr]
      have hun := eunpack_any _ (.slice AX (packOf ⟨k, t, cmd⟩).1.length cX) (encE ⟨k, t, cmd⟩) W11 (by have := HX.out; rw [hpo] at this ⊢; exact this) (by rw [encE_length]; have := (rightB_facts hr).2.2.2.2; omega)
      rw [unp_enc _ hr, hpo] at hun
      have Hun := Lib.hid hun
      clear hun
      go_wp2_with fail
      refine Hun.out.mono ?_
      rintro _ W12 ⟨z2, rfl, hZ2, hb⟩
      obtain ⟨AZ2, cZ2, rfl⟩ := (RowAt.of_own hZ2).slice
      have b13 := below_alloc hb (.cells #[.int .i64 k, .int .i64 t, .slice AZ2 cmd.length cZ2] 33)
      have Z13 := blk_new W12 (.cells #[.int .i64 k, .int .i64 t, .slice AZ2 cmd.length cZ2] 33)
      have hz13 := own_keep hZ2 (box_below W12 (.cells #[.int .i64 k, .int .i64 t, .slice AZ2 cmd.length cZ2] 33))
      obtain ⟨W13, hW13⟩ : ∃ W, W12.alloc (.cells #[.int .i64 k, .int .i64 t, .slice AZ2 cmd.length cZ2] 33) = W := ⟨_, rfl⟩
      rw [hW13] at b13 Z13 hz13
      have HB13 := Lib.hid (below_then HB11.out b13)
      obtain ⟨z0, z1, z2, -, -, -⟩ := cells3 Z13
      obtain ⟨e0, e1, e2, -, -, -⟩ := cells3 (blk_keep b13 HE11.out)
      have ea0 := fun o => cell_keep (box_below W13 o) e0
      have ea1 := fun o => cell_keep (box_below W13 o) e1
      have ea2 := fun o => cell_keep (box_below W13 o) e2
      have Hz13 := Lib.hid hz13
      clear b13 Z13 hz13 hZ2 hb
      go_wp2_with fail
      clear ea0 ea1 ea2
      have s1 := ents_new (S := fun _ => True) W13 k t (.slice AZ2 cmd.length cZ2) cmd Hin.out.1 Hin.out.2.1 (RowAt.mono (RowAt.of_own Hz13.out) fun _ _ _ => trivial) trivial
      have bb1 := box_below W13 (.cells #[.int .i64 k, .int .i64 t, .slice AZ2 cmd.length cZ2] 33)
      have s2 := ents_new (S := fun _ => True) (W13.alloc (.cells #[.int .i64 k, .int .i64 t, .slice AZ2 cmd.length cZ2] 33)) k t (.slice A cmd.length cA) cmd Hin.out.1 Hin.out.2.1 ((Hy.out.keep (below_then HB13.out bb1)).mono fun _ _ _ => trivial) trivial
      have bb2 := box_below (W13.alloc (.cells #[.int .i64 k, .int .i64 t, .slice AZ2 cmd.length cZ2] 33)) (.cells #[.int .i64 k, .int .i64 t, .slice A cmd.length cA] 33)
      have bb := below_then bb1 bb2
      refine (same_eq _ _ [⟨k, t, cmd⟩] _ (s1.keep bb2) (by simpa using s2)).mono ?_
      rintro _ W14 ⟨rfl, hD⟩
      have HB14 := Lib.hid (below_then HB13.out (below_then bb hD.below))
      clear s1 s2 bb1 bb2 bb hD
      go_wp2_with (go_at_call 12; refine (known_any _).mono ?_; rintro _ W15 ⟨rfl, hb15⟩)
      go_ret
      exact ⟨rfl, below_then HB14.out hb15⟩
    · have hpo : packOf ⟨k, t, cmd⟩ = ([], 1) := by unfold packOf; rw [if_neg hr]
      go_wp2_with (go_at_call 12; refine (known_any _).mono ?_; rintro _ W15 ⟨rfl, hb15⟩)
      go_ret
      exact ⟨rfl, below_then HB11.out hb15⟩
  · have hf2b : (f2 == 0) = false := by simpa using hf2
    clear hf2
    obtain ⟨W11, hW11⟩ : ∃ W, W = W10 := ⟨_, rfl⟩
    have HB11 : Hid (Below w.heap.size w W11) := by rw [hW11]; exact HB10
    have HE11 : Hid (W11.heap[w.heap.size]? = some (.cells #[.int .i64 k, .int .i64 t, .slice A cmd.length cA] 33 (0, 0))) := by rw [hW11]; exact HE10
    subst hW11
    by_cases hr : rightB ⟨k, t, cmd⟩ = true
    · have hpo : packOf ⟨k, t, cmd⟩ = (encE ⟨k, t, cmd⟩, 0) := by unfold packOf; rw [if_pos hr]
      have hun := eunpack_any _ (.slice AX (packOf ⟨k, t, cmd⟩).1.length cX) (encE ⟨k, t, cmd⟩) W11 (by have := HX.out; rw [hpo] at this ⊢; exact this) (by rw [encE_length]; have := (rightB_facts hr).2.2.2.2; omega)
      rw [unp_enc _ hr, hpo] at hun
      have Hun := Lib.hid hun
      clear hun
      go_wp2_with (go_at_call 31; refine HK.out.mono ?_; rintro _ _ ⟨rfl, rfl⟩)
      refine Hun.out.mono ?_
      rintro _ W12 ⟨z2, rfl, hZ2, hb⟩
      obtain ⟨AZ2, cZ2, rfl⟩ := (RowAt.of_own hZ2).slice
      have b13 := below_alloc hb (.cells #[.int .i64 k, .int .i64 t, .slice AZ2 cmd.length cZ2] 33)
      have Z13 := blk_new W12 (.cells #[.int .i64 k, .int .i64 t, .slice AZ2 cmd.length cZ2] 33)
      have hz13 := own_keep hZ2 (box_below W12 (.cells #[.int .i64 k, .int .i64 t, .slice AZ2 cmd.length cZ2] 33))
      obtain ⟨W13, hW13⟩ : ∃ W, W12.alloc (.cells #[.int .i64 k, .int .i64 t, .slice AZ2 cmd.length cZ2] 33) = W := ⟨_, rfl⟩
      rw [hW13] at b13 Z13 hz13
      have HB13 := Lib.hid (below_then HB11.out b13)
      obtain ⟨z0, z1, z2, -, -, -⟩ := cells3 Z13
      obtain ⟨e0, e1, e2, -, -, -⟩ := cells3 (blk_keep b13 HE11.out)
      have ea0 := fun o => cell_keep (box_below W13 o) e0
      have ea1 := fun o => cell_keep (box_below W13 o) e1
      have ea2 := fun o => cell_keep (box_below W13 o) e2
      have Hz13 := Lib.hid hz13
      clear b13 Z13 hz13 hZ2 hb
      go_wp2_with fail
      clear ea0 ea1 ea2
      have s1 := ents_new (S := fun _ => True) W13 k t (.slice AZ2 cmd.length cZ2) cmd Hin.out.1 Hin.out.2.1 (RowAt.mono (RowAt.of_own Hz13.out) fun _ _ _ => trivial) trivial
      have bb1 := box_below W13 (.cells #[.int .i64 k, .int .i64 t, .slice AZ2 cmd.length cZ2] 33)
      have s2 := ents_new (S := fun _ => True) (W13.alloc (.cells #[.int .i64 k, .int .i64 t, .slice AZ2 cmd.length cZ2] 33)) k t (.slice A cmd.length cA) cmd Hin.out.1 Hin.out.2.1 ((Hy.out.keep (below_then HB13.out bb1)).mono fun _ _ _ => trivial) trivial
      have bb2 := box_below (W13.alloc (.cells #[.int .i64 k, .int .i64 t, .slice AZ2 cmd.length cZ2] 33)) (.cells #[.int .i64 k, .int .i64 t, .slice A cmd.length cA] 33)
      have bb := below_then bb1 bb2
      refine (same_eq _ _ [⟨k, t, cmd⟩] _ (s1.keep bb2) (by simpa using s2)).mono ?_
      rintro _ W14 ⟨rfl, hD⟩
      have HB14 := Lib.hid (below_then HB13.out (below_then bb hD.below))
      clear s1 s2 bb1 bb2 bb hD
      go_wp2_with (go_at_call 12; refine (known_any _).mono ?_; rintro _ W15 ⟨rfl, hb15⟩)
      go_ret
      exact ⟨rfl, below_then HB14.out hb15⟩
    · have hpo : packOf ⟨k, t, cmd⟩ = ([], 1) := by unfold packOf; rw [if_neg hr]
      go_wp2_with (first | (go_at_call 31; refine HK.out.mono ?_; rintro _ _ ⟨rfl, rfl⟩) | (go_at_call 12; refine (known_any _).mono ?_; rintro _ W15 ⟨rfl, hb15⟩))
      go_ret
      exact ⟨rfl, below_then HB11.out hb15⟩
end Go.Proofs.Ytoaoldhajpbenaa
