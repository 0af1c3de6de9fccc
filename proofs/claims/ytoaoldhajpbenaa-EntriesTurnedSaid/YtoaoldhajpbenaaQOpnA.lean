/- Texts that belong together, in one file: PckF, LetU, EntO, OpnA. No statement is proved here. -/
import Derived.Test.YtoaoldhajpbenaaQLetA
import Derived.Test.YtoaoldhajpbenaaQEntG
import Derived.Test.YtoaoldhajpbenaaQEntU
import Derived.Test.YtoaoldhajpbenaaQLetM
import Derived.Deep.Slices
import Derived.Deep.Strs
import Derived.WideShapes
namespace Go.Proofs.Ytoaoldhajpbenaa
open Go.RowKit

def packOf (e : Ent) : List UInt8 × Int := if rightB e = true then (encE e, 0) else ([], 1)
theorem epack_any {S : Nat → Prop} (e : Ent) (y : Value) (w : World) (hp : Bytes S w y e.cmd) :
    Calls Try.prog 27 #[.agg #[.int .i64 e.kind, .int .i64 e.term, y]] w fun r w' => ∃ v, r = .returned (.tuple #[v, .int .i64 (packOf e).2]) ∧ Bytes (w.heap.size ≤ ·) w' v (packOf e).1 ∧ Below w.heap.size w w' := by
  unfold packOf
  by_cases hr : rightB e = true
  · rw [if_pos hr]; exact epack_yes e y w hp hr
  · rw [if_neg hr]
    exact (epack_no e y w hp (by simpa using hr)).mono (by rintro _ w' ⟨rfl, hb⟩; exact ⟨_, rfl, ⟨rfl, .inl ⟨rfl, .inl rfl⟩⟩, hb⟩)
theorem qpack_any {S : Nat → Prop} (e : Ent) (y : Value) (w : World) (hp : Bytes S w y e.cmd) :
    Calls Try.prog 28 #[.agg #[.int .i64 e.kind, .int .i64 e.term, y]] w fun r w' => ∃ v, r = .returned (.tuple #[v, .int .i64 (packOf e).2]) ∧ Bytes (w.heap.size ≤ ·) w' v (packOf e).1 ∧ Below w.heap.size w w' := by
  unfold packOf
  by_cases hr : rightB e = true
  · rw [if_pos hr]; exact qpack_yes e y w hp hr
  · rw [if_neg hr]
    exact (qpack_no e y w hp (by simpa using hr)).mono (by rintro _ w' ⟨rfl, hb⟩; exact ⟨_, rfl, ⟨rfl, .inl ⟨rfl, .inl rfl⟩⟩, hb⟩)

theorem unp_in (xs : List UInt8) : in64 (unpOf xs).1.kind ∧ in64 (unpOf xs).1.term := by
  have h := rdEnt_in (xs, 0)
  unfold unpOf
  by_cases he : endOf (rdEnt (xs, 0)).2.1 (rdEnt (xs, 0)).2.2 ≠ 0
  · rw [if_pos he]; exact ⟨⟨by show _ ≤ (0 : Int); decide, by show (0 : Int) ≤ _; decide⟩, ⟨by show _ ≤ (0 : Int); decide, by show (0 : Int) ≤ _; decide⟩⟩
  · rw [if_neg he]
    by_cases hr : rightB (rdEnt (xs, 0)).1 = true
    · rw [if_pos hr]; exact ⟨⟨by show _ ≤ (rdEnt (xs, 0)).1.kind; omega, by show (rdEnt (xs, 0)).1.kind ≤ _; omega⟩, ⟨by show _ ≤ (rdEnt (xs, 0)).1.term; omega, by show (rdEnt (xs, 0)).1.term ≤ _; omega⟩⟩
    · rw [if_neg hr]; exact ⟨⟨by show _ ≤ (0 : Int); decide, by show (0 : Int) ≤ _; decide⟩, ⟨by show _ ≤ (0 : Int); decide, by show (0 : Int) ≤ _; decide⟩⟩
theorem unp_len (xs : List UInt8) : (unpOf xs).1.cmd.length ≤ 4080 := by
  unfold unpOf
  by_cases he : endOf (rdEnt (xs, 0)).2.1 (rdEnt (xs, 0)).2.2 ≠ 0
  · rw [if_pos he]; exact Nat.zero_le _
  · rw [if_neg he]
    by_cases hr : rightB (rdEnt (xs, 0)).1 = true
    · rw [if_pos hr]; exact (rightB_facts hr).2.2.2.2
    · rw [if_neg hr]; exact Nat.zero_le _

/-- A slice of one entry that was just made. -/
theorem ents_new {S : Nat → Prop} (w : World) (k t : Int) (v : Value) (c : List UInt8) (hk : in64 k) (ht : in64 t) (hv : Bytes S w v c) (hS : S w.heap.size) :
    Ents S (w.alloc (.cells #[.int .i64 k, .int .i64 t, v] 33)) (.slice (some ⟨w.heap.size, 0, none⟩) 1 1) [⟨k, t, c⟩] := by
  refine ⟨[.int .i64 k, .int .i64 t, v], ⟨rfl, .inr ⟨w.heap.size, 0, 1, rfl, Nat.le_refl _, by unfold maxLen; omega, hS, by simp, fun i u hu => ?_⟩⟩, v, [], rfl, hk, ht, hv.keep (box_below _ _), rfl⟩
  rw [Nat.zero_add, cell_of_row _ _ _ _ _ _ (blk_new w _)]
  simpa using hu
theorem LentAt.bytes {B : Nat} {w : World} {v : Value} {xs : List UInt8} (h : LentAt B w v xs) : Bytes (B ≤ ·) w v xs := by
  obtain ⟨g, cap, rfl, hown⟩ := h
  obtain ⟨hcap, hcm⟩ : xs.length + 1 ≤ cap ∧ cap ≤ maxLen := by
    rcases hown.2 with ⟨_, h⟩ | ⟨g, cap', cur, h, _, _, h1, h2, _⟩
    · omega
    · injection h with _ _ h
      subst h
      exact ⟨h1, h2⟩
  have h2 := RowAt.cut (sz := 1) (RowAt.of_own hown) 0 xs.length cap (by omega) (by omega) hcm
  unfold Bytes
  simpa [byteCells_append, byteCells_length] using h2
theorem own_apart {w : World} {B n sz : Nat} {e : TypeId} {v : Value} {cs : List Value} {o : Option Nat} (h : w.ownsRow B e sz v n cs) (ho : ∀ k, o = some k → k < B) : v.ownBlock = none ∨ v.ownBlock ≠ o := by
  cases hv : v.ownBlock with
  | none => exact .inl rfl
  | some k =>
    right
    intro h2
    have := ho k h2.symm
    have := own_blk_ge h k hv
    omega
theorem lent_keep {B : Nat} {w w' : World} {v : Value} {xs : List UInt8} (h : LentAt B w v xs) (hb : Below w.heap.size w w') : LentAt B w' v xs := by
  obtain ⟨g, cap, rfl, h⟩ := h
  exact ⟨g, cap, rfl, own_keep h hb⟩

set_option maxRecDepth 100000 in
set_option maxHeartbeats 4000000 in
theorem entriesPack_any {S : Nat → Prop} (k t : Int) (y v : Value) (cmd xs : List UInt8) (w : World) (hk : in64 k) (ht : in64 t) (hy : Bytes S w y cmd) (hv : Bytes S w v xs) (hx : xs.length < 140737488355328) :
    Calls Try.prog 8 #[.agg #[.int .i64 k, .int .i64 t, y], v] w fun e w' => e = .returned (.bool true) ∧ Below w.heap.size w w' := by
  have b1 := box_below w (.cells #[.int .i64 k, .int .i64 t, y] 33)
  have E1 := blk_new w (.cells #[.int .i64 k, .int .i64 t, y] 33)
  obtain ⟨W1, hW1⟩ : ∃ W, w.alloc (.cells #[.int .i64 k, .int .i64 t, y] 33) = W := ⟨_, rfl⟩
  rw [hW1] at b1 E1
  have hL := lent_any S v xs W1 (hv.keep b1) hx
  have HL := Lib.hid hL
  have HB1 := Lib.hid b1
  have HE1 := Lib.hid E1
  have Hy := Lib.hid hy
  have Hv := Lib.hid hv
  have Hin := Lib.hid (And.intro hk (And.intro ht hx))
  obtain ⟨A, cA, rfl⟩ := hy.slice
  obtain ⟨B, cB, rfl⟩ := hv.slice
  clear hL b1 E1 hy hv hk ht hx
  go_enter Try.func8, Try.ntmps8
  go_wp2_with fail
  refine HL.out.mono ?_
  rintro _ W2 ⟨u, rfl, hl, hb⟩
  have HB2 := Lib.hid (HB1.out.trans (hb.mono HB1.out.size))
  have hE2 := blk_keep hb HE1.out
  obtain ⟨g, cap, rfl, hown⟩ := id hl
  have HLt := Lib.hid hl
  obtain ⟨e0, e1, e2, -, -, -⟩ := cells3 hE2
  have HE2 := Lib.hid hE2
  clear HL hl hb hown hE2
  go_wp2_with fail
  refine (epack_any (S := S) ⟨k, t, cmd⟩ (.slice A cmd.length cA) W2 (Hy.out.keep HB2.out)).mono ?_
  rintro _ W3 ⟨x, rfl, hX, hb⟩
  obtain ⟨AX, cX, rfl⟩ := hX.slice
  have HX := Lib.hid hX
  have HLt := Lib.hid (lent_keep HLt.out hb)
  have HB3 := Lib.hid (below_then HB2.out hb)
  have hE3 := blk_keep hb HE2.out
  obtain ⟨e0, e1, e2, -, -, -⟩ := cells3 hE3
  have HE3 := Lib.hid hE3
  clear hX hb hE3
  go_wp2_with fail
  refine (qpack_any (S := S) ⟨k, t, cmd⟩ (.slice A cmd.length cA) W3 (Hy.out.keep HB3.out)).mono ?_
  rintro _ W4 ⟨y, rfl, hY, hb⟩
  obtain ⟨AY, cY, rfl⟩ := hY.slice
  have HY := Lib.hid hY
  have HX := Lib.hid (HX.out.keep hb)
  have HLt := Lib.hid (lent_keep HLt.out hb)
  have HB4 := Lib.hid (below_then HB3.out hb)
  have HE4 := Lib.hid (blk_keep hb HE3.out)
  clear hY hb
  have HX4 := HX
  have HLt4 := HLt
  have hlb := LentAt.bytes HLt.out
  have HU := Lib.hid (eunpack_any _ _ xs W4 hlb (by have := Hin.out; omega))
  clear hlb
  go_wp2_with fail
  have hui := unp_in xs
  have huinv := unp_inv xs
  have hunl := unp_len xs
  have HQ0 := Lib.hid fun W hW => qunpack_any S (.slice B xs.length cB) xs W hW (by have := Hin.out; omega)
  have HU := HU
  obtain ⟨r, hr⟩ : ∃ r, r = unpOf xs := ⟨_, rfl⟩
  rw [← hr] at hui huinv HU HQ0 hunl
  obtain ⟨⟨k2, t2, c2⟩, f2⟩ := r
  simp only at hui huinv HU HQ0 hunl
  have Hui := Lib.hid (And.intro hui (And.intro huinv hunl))
  clear hr hui huinv hunl
  refine HU.out.mono ?_
  rintro _ W5 ⟨p, rfl, hp, hb⟩
  obtain ⟨AP, cP, rfl⟩ := (RowAt.of_own hp).slice
  have b6 := below_alloc hb (.cells #[.int .i64 k2, .int .i64 t2, .slice AP c2.length cP] 33)
  have P6 := blk_new W5 (.cells #[.int .i64 k2, .int .i64 t2, .slice AP c2.length cP] 33)
  have hp6 := own_keep hp (box_below W5 (.cells #[.int .i64 k2, .int .i64 t2, .slice AP c2.length cP] 33))
  have hwz : W4.heap.size ≤ W5.heap.size := hb.size
  obtain ⟨W6, hW6⟩ : ∃ W, W5.alloc (.cells #[.int .i64 k2, .int .i64 t2, .slice AP c2.length cP] 33) = W := ⟨_, rfl⟩
  rw [hW6] at b6 P6 hp6
  have HX := Lib.hid (HX.out.keep b6)
  have HY := Lib.hid (HY.out.keep b6)
  have HLt := Lib.hid (lent_keep HLt.out b6)
  have HB6 := Lib.hid (below_then HB4.out b6)
  have HC6 := Lib.hid b6
  have HE6 := Lib.hid (blk_keep b6 HE4.out)
  have HP6 := Lib.hid P6
  have Hp6 := Lib.hid hp6
  clear b6 P6 hp6 hp hb HU
  have HQ := Lib.hid (HQ0.out W6 (Hv.out.keep HB6.out))
  clear HQ0
  go_wp2_with fail
  clear hW6
  refine HQ.out.mono ?_
  rintro _ W7 ⟨q, rfl, hq, hb⟩
  obtain ⟨AQ, cQ, rfl⟩ := (RowAt.of_own hq).slice
  have b8 := below_alloc hb (.cells #[.int .i64 k2, .int .i64 t2, .slice AQ c2.length cQ] 33)
  have Q8 := blk_new W7 (.cells #[.int .i64 k2, .int .i64 t2, .slice AQ c2.length cQ] 33)
  have hq8 := own_keep hq (box_below W7 (.cells #[.int .i64 k2, .int .i64 t2, .slice AQ c2.length cQ] 33))
  have hwz7 : W6.heap.size ≤ W7.heap.size := hb.size
  obtain ⟨W8, hW8⟩ : ∃ W, W7.alloc (.cells #[.int .i64 k2, .int .i64 t2, .slice AQ c2.length cQ] 33) = W := ⟨_, rfl⟩
  rw [hW8] at b8 Q8 hq8
  have HX := Lib.hid (HX.out.keep b8)
  have HY := Lib.hid (HY.out.keep b8)
  have HLt := Lib.hid (lent_keep HLt.out b8)
  have HB8 := Lib.hid (below_then HB6.out b8)
  have HC8 := Lib.hid (below_then HC6.out b8)
  have HD8 := Lib.hid b8
  have HE8 := Lib.hid (blk_keep b8 HE6.out)
  have HP8 := Lib.hid (blk_keep b8 HP6.out)
  have Hp8 := Lib.hid (own_keep Hp6.out b8)
  have HQ8 := Lib.hid Q8
  have Hq8 := Lib.hid hq8
  have sx := bytes_str HX.out
  have sy := bytes_str HY.out
  obtain ⟨pp0, pp1, pp2, -, -, -⟩ := cells3 HP8.out
  obtain ⟨qq0, qq1, qq2, -, -, -⟩ := cells3 HQ8.out
  have qa0 := fun o => cell_keep (box_below W8 o) qq0
  have qa1 := fun o => cell_keep (box_below W8 o) qq1
  have qa2 := fun o => cell_keep (box_below W8 o) qq2
  clear b8 Q8 hq8 hq hb HQ
  go_wp2_with fail
  clear qa0 qa1 qa2 sx sy
  have s1 := ents_new (S := fun _ => True) W8 k2 t2 (.slice AP c2.length cP) c2 Hui.out.1.1 Hui.out.1.2 (RowAt.mono (RowAt.of_own Hp8.out) fun _ _ _ => trivial) trivial
  have bb1 := box_below W8 (.cells #[.int .i64 k2, .int .i64 t2, .slice AP c2.length cP] 33)
  have s2 := ents_new (S := fun _ => True) (W8.alloc (.cells #[.int .i64 k2, .int .i64 t2, .slice AP c2.length cP] 33)) k2 t2 (.slice AQ c2.length cQ) c2 Hui.out.1.1 Hui.out.1.2 (RowAt.mono (RowAt.of_own (own_keep Hq8.out bb1)) fun _ _ _ => trivial) trivial
  have bb2 := box_below (W8.alloc (.cells #[.int .i64 k2, .int .i64 t2, .slice AP c2.length cP] 33)) (.cells #[.int .i64 k2, .int .i64 t2, .slice AQ c2.length cQ] 33)
  have bb := below_then bb1 bb2
  refine (same_eq _ _ [⟨k2, t2, c2⟩] _ (s1.keep bb2) (by simpa using s2)).mono ?_
  rintro _ W9 ⟨rfl, hD⟩
  have bd := below_then bb hD.below
  have HB9 := Lib.hid (below_then HB8.out bd)
  have HC9 := Lib.hid (below_then HC8.out bd)
  have HX := Lib.hid (HX.out.keep bd)
  have HLt := Lib.hid (lent_keep HLt.out bd)
  have HE9 := Lib.hid (blk_keep bd HE8.out)
  have HP9 := Lib.hid (blk_keep bd HP8.out)
  have Hp9 := Lib.hid (own_keep Hp8.out bd)
  have HQ9 := Lib.hid (blk_keep bd HQ8.out)
  have Hq9 := Lib.hid (own_keep Hq8.out bd)
  obtain ⟨pp0, pp1, pp2, -, -, -⟩ := cells3 HP9.out
  obtain ⟨qq0, qq1, qq2, -, -, -⟩ := cells3 HQ9.out
  have HK := Lib.hid (kept_any S _ _ _ xs W9 HLt.out (Hv.out.keep HB9.out) Hin.out.2.2)
  clear s1 s2 bb1 bb2 bb hD bd
  go_wp2_with (go_at_call 31; refine HK.out.mono ?_; rintro _ _ ⟨rfl, rfl⟩)
  have hpl : ∀ k, (Value.slice AP c2.length cP).ownBlock = some k → W4.heap.size ≤ k ∧ k < W6.heap.size := fun k hk => ⟨own_blk_ge Hp6.out k hk, own_blk_lt Hp6.out k hk⟩
  refine (spoil_any W4.heap.size _ _ _ W9 Hp9.out (by have := Hui.out.2.2; omega) HC9.out.size).mono ?_
  rintro _ W10 ⟨⟨v10, rfl⟩, hg⟩
  have bg : Below W4.heap.size W9 W10 := (Below.refl _ _).grown hg HC9.out.size (fun k hk => (hpl k hk).1)
  have HC10 := Lib.hid (HC9.out.trans bg)
  have HB10 := Lib.hid (HB4.out.trans (HC10.out.mono HB4.out.size))
  have HX := Lib.hid (HX4.out.keep HC10.out)
  have HLt := Lib.hid (lent_keep HLt4.out HC10.out)
  have hQ10 := grown_blk hg (b := W7.heap.size) (by intro h; have := hpl _ h.symm; omega) HQ9.out
  have hq10 : W10.ownsRow W6.heap.size 5 1 (.slice AQ c2.length cQ) c2.length (byteCells c2) := Hq9.out.kept hg (own_apart Hq9.out (fun k hk => (hpl k hk).2))
  have HE10 := Lib.hid (blk_keep HC10.out HE4.out)
  obtain ⟨qq0, qq1, qq2, -, -, -⟩ := cells3 hQ10
  have HQ10 := Lib.hid hQ10
  have Hq10 := Lib.hid hq10
  have HK := Lib.hid (kept_any S _ _ _ xs W10 HLt.out (Hv.out.keep HB10.out) Hin.out.2.2)
  clear hpl hg bg hQ10 hq10
  by_cases hf2 : f2 = 0
  · subst hf2
    obtain ⟨hrq, heq⟩ := Hui.out.2.1 rfl
    have hpk := epack_yes ⟨k2, t2, c2⟩ (.slice AQ c2.length cQ) W10 (RowAt.of_own Hq10.out) hrq
    rw [heq] at hpk
    have Hpk := Lib.hid hpk
    clear hrq heq hpk
    go_wp2_with (go_at_call 31; refine HK.out.mono ?_; rintro _ _ ⟨rfl, rfl⟩)
    refine Hpk.out.mono ?_
    rintro _ W11 ⟨z, rfl, hZ, hb⟩
    obtain ⟨AZ, cZ, rfl⟩ := hZ.slice
    have HB11 := Lib.hid (below_then HB10.out hb)
    have HX := Lib.hid (HX.out.keep hb)
    have HE11 := Lib.hid (blk_keep hb HE10.out)
    have sz := bytes_str hZ
    have sb := bytes_str (Hv.out.keep HB11.out)
    clear hZ hb Hpk
    by_cases hr : rightB ⟨k, t, cmd⟩ = true
    · have hpo : packOf ⟨k, t, cmd⟩ = (encE ⟨k, t, cmd⟩, 0) := by unfold packOf; rw [if_pos hr]
      have hun := eunpack_any _ (.slice AX (packOf ⟨k, t, cmd⟩).1.length cX) (encE ⟨k, t, cmd⟩) W11 (by have := HX.out; rw [hpo] at this ⊢; exact this) (by rw [encE_length]; have := (rightB_facts hr).2.2.2.2; omega)
      rw [unp_enc _ hr, hpo] at hun
      have Hun := Lib.hid hun
      clear hun
      go_wp2_with fail
      refine Hun.out.mono ?_
      rintro _ W12 ⟨z2, rfl, hZ2, hb⟩
      obtain ⟨AZ2, cZ2, rfl⟩ := (RowAt.of_own hZ2).slice
      have b13 := below_alloc hb (.cells #[.int .i64 k, .int .i64 t, .slice AZ2 cmd.length cZ2] 33)
      have Z13 := blk_new W12 (.cells #[.int .i64 k, .int .i64 t, .slice AZ2 cmd.length cZ2] 33)
      have hz13 := own_keep hZ2 (box_below W12 (.cells #[.int .i64 k, .int .i64 t, .slice AZ2 cmd.length cZ2] 33))
      obtain ⟨W13, hW13⟩ : ∃ W, W12.alloc (.cells #[.int .i64 k, .int .i64 t, .slice AZ2 cmd.length cZ2] 33) = W := ⟨_, rfl⟩
      rw [hW13] at b13 Z13 hz13
      have HB13 := Lib.hid (below_then HB11.out b13)
      obtain ⟨z0, z1, z2, -, -, -⟩ := cells3 Z13
      obtain ⟨e0, e1, e2, -, -, -⟩ := cells3 (blk_keep b13 HE11.out)
      have ea0 := fun o => cell_keep (box_below W13 o) e0
      have ea1 := fun o => cell_keep (box_below W13 o) e1
      have ea2 := fun o => cell_keep (box_below W13 o) e2
      have Hz13 := Lib.hid hz13
      clear b13 Z13 hz13 hZ2 hb
      go_wp2_with fail
      clear ea0 ea1 ea2
      have s1 := ents_new (S := fun _ => True) W13 k t (.slice AZ2 cmd.length cZ2) cmd Hin.out.1 Hin.out.2.1 (RowAt.mono (RowAt.of_own Hz13.out) fun _ _ _ => trivial) trivial
      have bb1 := box_below W13 (.cells #[.int .i64 k, .int .i64 t, .slice AZ2 cmd.length cZ2] 33)
      have s2 := ents_new (S := fun _ => True) (W13.alloc (.cells #[.int .i64 k, .int .i64 t, .slice AZ2 cmd.length cZ2] 33)) k t (.slice A cmd.length cA) cmd Hin.out.1 Hin.out.2.1 ((Hy.out.keep (below_then HB13.out bb1)).mono fun _ _ _ => trivial) trivial
      have bb2 := box_below (W13.alloc (.cells #[.int .i64 k, .int .i64 t, .slice AZ2 cmd.length cZ2] 33)) (.cells #[.int .i64 k, .int .i64 t, .slice A cmd.length cA] 33)
      have bb := below_then bb1 bb2
      refine (same_eq _ _ [⟨k, t, cmd⟩] _ (s1.keep bb2) (by simpa using s2)).mono ?_
      rintro _ W14 ⟨rfl, hD⟩
      have HB14 := Lib.hid (below_then HB13.out (below_then bb hD.below))
      clear s1 s2 bb1 bb2 bb hD
      go_wp2_with (go_at_call 12; refine (known_any _).mono ?_; rintro _ W15 ⟨rfl, hb15⟩)
      go_ret
      exact ⟨rfl, below_then HB14.out hb15⟩
    · have hpo : packOf ⟨k, t, cmd⟩ = ([], 1) := by unfold packOf; rw [if_neg hr]
      go_wp2_with (go_at_call 12; refine (known_any _).mono ?_; rintro _ W15 ⟨rfl, hb15⟩)
      go_ret
      exact ⟨rfl, below_then HB11.out hb15⟩
  · have hf2b : (f2 == 0) = false := by simpa using hf2
    clear hf2
    obtain ⟨W11, hW11⟩ : ∃ W, W = W10 := ⟨_, rfl⟩
    have HB11 : Hid (Below w.heap.size w W11) := by rw [hW11]; exact HB10
    have HE11 : Hid (W11.heap[w.heap.size]? = some (.cells #[.int .i64 k, .int .i64 t, .slice A cmd.length cA] 33 (0, 0))) := by rw [hW11]; exact HE10
    subst hW11
    by_cases hr : rightB ⟨k, t, cmd⟩ = true
    · have hpo : packOf ⟨k, t, cmd⟩ = (encE ⟨k, t, cmd⟩, 0) := by unfold packOf; rw [if_pos hr]
      have hun := eunpack_any _ (.slice AX (packOf ⟨k, t, cmd⟩).1.length cX) (encE ⟨k, t, cmd⟩) W11 (by have := HX.out; rw [hpo] at this ⊢; exact this) (by rw [encE_length]; have := (rightB_facts hr).2.2.2.2; omega)
      rw [unp_enc _ hr, hpo] at hun
      have Hun := Lib.hid hun
      clear hun
      go_wp2_with (go_at_call 31; refine HK.out.mono ?_; rintro _ _ ⟨rfl, rfl⟩)
      refine Hun.out.mono ?_
      rintro _ W12 ⟨z2, rfl, hZ2, hb⟩
      obtain ⟨AZ2, cZ2, rfl⟩ := (RowAt.of_own hZ2).slice
      have b13 := below_alloc hb (.cells #[.int .i64 k, .int .i64 t, .slice AZ2 cmd.length cZ2] 33)
      have Z13 := blk_new W12 (.cells #[.int .i64 k, .int .i64 t, .slice AZ2 cmd.length cZ2] 33)
      have hz13 := own_keep hZ2 (box_below W12 (.cells #[.int .i64 k, .int .i64 t, .slice AZ2 cmd.length cZ2] 33))
      obtain ⟨W13, hW13⟩ : ∃ W, W12.alloc (.cells #[.int .i64 k, .int .i64 t, .slice AZ2 cmd.length cZ2] 33) = W := ⟨_, rfl⟩
      rw [hW13] at b13 Z13 hz13
      have HB13 := Lib.hid (below_then HB11.out b13)
      obtain ⟨z0, z1, z2, -, -, -⟩ := cells3 Z13
      obtain ⟨e0, e1, e2, -, -, -⟩ := cells3 (blk_keep b13 HE11.out)
      have ea0 := fun o => cell_keep (box_below W13 o) e0
      have ea1 := fun o => cell_keep (box_below W13 o) e1
      have ea2 := fun o => cell_keep (box_below W13 o) e2
      have Hz13 := Lib.hid hz13
      clear b13 Z13 hz13 hZ2 hb
      go_wp2_with fail
      clear ea0 ea1 ea2
      have s1 := ents_new (S := fun _ => True) W13 k t (.slice AZ2 cmd.length cZ2) cmd Hin.out.1 Hin.out.2.1 (RowAt.mono (RowAt.of_own Hz13.out) fun _ _ _ => trivial) trivial
      have bb1 := box_below W13 (.cells #[.int .i64 k, .int .i64 t, .slice AZ2 cmd.length cZ2] 33)
      have s2 := ents_new (S := fun _ => True) (W13.alloc (.cells #[.int .i64 k, .int .i64 t, .slice AZ2 cmd.length cZ2] 33)) k t (.slice A cmd.length cA) cmd Hin.out.1 Hin.out.2.1 ((Hy.out.keep (below_then HB13.out bb1)).mono fun _ _ _ => trivial) trivial
      have bb2 := box_below (W13.alloc (.cells #[.int .i64 k, .int .i64 t, .slice AZ2 cmd.length cZ2] 33)) (.cells #[.int .i64 k, .int .i64 t, .slice A cmd.length cA] 33)
      have bb := below_then bb1 bb2
      refine (same_eq _ _ [⟨k, t, cmd⟩] _ (s1.keep bb2) (by simpa using s2)).mono ?_
      rintro _ W14 ⟨rfl, hD⟩
      have HB14 := Lib.hid (below_then HB13.out (below_then bb hD.below))
      clear s1 s2 bb1 bb2 bb hD
      go_wp2_with (go_at_call 12; refine (known_any _).mono ?_; rintro _ W15 ⟨rfl, hb15⟩)
      go_ret
      exact ⟨rfl, below_then HB14.out hb15⟩
    · have hpo : packOf ⟨k, t, cmd⟩ = ([], 1) := by unfold packOf; rw [if_neg hr]
      go_wp2_with (first | (go_at_call 31; refine HK.out.mono ?_; rintro _ _ ⟨rfl, rfl⟩) | (go_at_call 12; refine (known_any _).mono ?_; rintro _ W15 ⟨rfl, hb15⟩))
      go_ret
      exact ⟨rfl, below_then HB11.out hb15⟩
end Go.Proofs.Ytoaoldhajpbenaa

namespace Go.Proofs.Ytoaoldhajpbenaa
open Go.RowKit

theorem packTo {S : Nat → Prop} (m : Msg) (X : List UInt8) (pe : Int) (vl vd : Value) (w : World) (hX : packM m = (X, pe)) (hm : MsgAt S w m vl vd) (hf : Fine m) :
    Calls Try.prog 33 #[.agg #[.int .i64 m.kind, .int .i64 m.src, .int .i64 m.dst, .int .i64 m.term, .int .i64 m.at_, .int .i64 m.atTerm, .int .i64 m.commit, .int .i64 m.round, .bool m.yes, vl, vd]] w fun e w' => ∃ v, e = .returned (.tuple #[v, .int .i64 pe]) ∧ Bytes (w.heap.size ≤ ·) w' v X ∧ Below w.heap.size w w' := by
  have h := packMsg_any m vl vd w hm hf
  rw [hX] at h
  exact h
theorem qpackTo {S : Nat → Prop} (m : Msg) (X : List UInt8) (pe : Int) (vl vd : Value) (w : World) (hX : packM m = (X, pe)) (hm : MsgAt S w m vl vd) (hf : Fine m) :
    Calls Try.prog 34 #[.agg #[.int .i64 m.kind, .int .i64 m.src, .int .i64 m.dst, .int .i64 m.term, .int .i64 m.at_, .int .i64 m.atTerm, .int .i64 m.commit, .int .i64 m.round, .bool m.yes, vl, vd]] w fun e w' => ∃ v, e = .returned (.tuple #[v, .int .i64 pe]) ∧ Bytes (w.heap.size ≤ ·) w' v X ∧ Below w.heap.size w w' := by
  have h := qpackMsg_any m vl vd w hm hf
  rw [hX] at h
  exact h
theorem unpTo {S : Nat → Prop} (v : Value) (xs : List UInt8) (m : Msg) (er : Int) (w : World) (hu : unpMsg xs = (m, er)) (hv : Bytes S w v xs) (h47 : xs.length ≤ 140737488355328) :
    Calls Try.prog 35 #[v] w fun e w' => ∃ vl vd, e = .returned (.tuple #[.agg #[.int .i64 m.kind, .int .i64 m.src, .int .i64 m.dst, .int .i64 m.term, .int .i64 m.at_, .int .i64 m.atTerm, .int .i64 m.commit, .int .i64 m.round, .bool m.yes, vl, vd], .int .i64 er]) ∧ MsgAt (w.heap.size ≤ ·) w' m vl vd ∧ Below w.heap.size w w' := by
  have h := unpackMsg_any v xs w hv h47
  unfold UnpTo at h
  rw [hu] at h
  exact h
theorem qunpTo {S : Nat → Prop} (v : Value) (xs : List UInt8) (m : Msg) (er : Int) (w : World) (hu : unpMsg xs = (m, er)) (hv : Bytes S w v xs) (h47 : xs.length ≤ 140737488355328) :
    Calls Try.prog 36 #[v] w fun e w' => ∃ vl vd, e = .returned (.tuple #[.agg #[.int .i64 m.kind, .int .i64 m.src, .int .i64 m.dst, .int .i64 m.term, .int .i64 m.at_, .int .i64 m.atTerm, .int .i64 m.commit, .int .i64 m.round, .bool m.yes, vl, vd], .int .i64 er]) ∧ MsgAt (w.heap.size ≤ ·) w' m vl vd ∧ Below w.heap.size w w' := by
  have h := qunpackMsg_any v xs w hv h47
  unfold UnpTo at h
  rw [hu] at h
  exact h
theorem packM_back (m : Msg) (h : (packM m).2 = 0) : unpMsg (packM m).1 = (m, 0) ∧ (packM m).1.length ≤ 140737488355328 ∧ 4 ≤ (packM m).1.length ∧ beVal ((packM m).1.drop ((packM m).1.length - 4)) = crcSum ((packM m).1.take ((packM m).1.length - 4)) := by
  unfold packM at h ⊢
  cases hL : longB m with
  | true => rw [hL, if_pos rfl] at h; simp at h
  | false =>
    cases hO : msgOK m with
    | false => rw [hL, hO, if_neg (by simp), if_neg (by simp)] at h; simp at h
    | true =>
      rw [if_neg (by simp), if_pos rfl]
      have hu := unpMsg_enc m hL hO
      refine ⟨hu, ?_, ?_, ?_⟩
      · have hl : ¬ 65536 < (encM m ++ be 4 (crcSum (encM m))).length := by
          intro hl
          unfold unpMsg at hu
          rw [if_pos hl] at hu
          injection hu with _ hu
          simp at hu
        show (encM m ++ be 4 (crcSum (encM m))).length ≤ _
        omega
      · show 4 ≤ (encM m ++ be 4 (crcSum (encM m))).length
        rw [List.length_append, be_length]
        omega
      · show beVal ((encM m ++ be 4 (crcSum (encM m))).drop ((encM m ++ be 4 (crcSum (encM m))).length - 4)) = crcSum ((encM m ++ be 4 (crcSum (encM m))).take ((encM m ++ be 4 (crcSum (encM m))).length - 4))
        rw [List.length_append, be_length, Nat.add_sub_cancel, List.drop_left, List.take_left, beVal_be 4 _ (crcSum_lt _)]
theorem unp_back (xs : List UInt8) (h : (unpMsg xs).2 = 0) : packM (unpMsg xs).1 = (xs, 0) ∧ Fine (unpMsg xs).1 := by
  obtain ⟨h1, h2, h3⟩ := unpMsg_inv xs h
  refine ⟨?_, fine_of_long h1⟩
  unfold packM
  rw [h1, h2, if_neg (by simp), if_pos rfl, h3]

set_option maxRecDepth 100000 in
set_option maxHeartbeats 4000000 in
theorem entriesLetters_any {S : Nat → Prop} (m : Msg) (vl vd v : Value) (xs : List UInt8) (w : World) (hm : MsgAt S w m vl vd) (hf : Fine m) (hv : Bytes S w v xs) (hx : xs.length < 140737488355328) :
    Calls Try.prog 9 #[.agg #[.int .i64 m.kind, .int .i64 m.src, .int .i64 m.dst, .int .i64 m.term, .int .i64 m.at_, .int .i64 m.atTerm, .int .i64 m.commit, .int .i64 m.round, .bool m.yes, vl, vd], v] w fun e w' => e = .returned (.bool true) ∧ Below w.heap.size w w' := by
  have hpf := packM_back m
  have huf := unp_back xs
  obtain ⟨⟨X, pe⟩, hX⟩ : ∃ p, packM m = p := ⟨_, rfl⟩
  obtain ⟨⟨m2, f2⟩, hU⟩ : ∃ p, unpMsg xs = p := ⟨_, rfl⟩
  rw [hX] at hpf
  rw [hU] at huf
  simp only at hpf huf
  have b10 := box_below w (.cells #[.int .i64 m.kind, .int .i64 m.src, .int .i64 m.dst, .int .i64 m.term, .int .i64 m.at_, .int .i64 m.atTerm, .int .i64 m.commit, .int .i64 m.round, .bool m.yes, vl, vd] 65)
  have E1 := blk_new w (.cells #[.int .i64 m.kind, .int .i64 m.src, .int .i64 m.dst, .int .i64 m.term, .int .i64 m.at_, .int .i64 m.atTerm, .int .i64 m.commit, .int .i64 m.round, .bool m.yes, vl, vd] 65)
  obtain ⟨W1, hW1⟩ : ∃ W, w.alloc (.cells #[.int .i64 m.kind, .int .i64 m.src, .int .i64 m.dst, .int .i64 m.term, .int .i64 m.at_, .int .i64 m.atTerm, .int .i64 m.commit, .int .i64 m.round, .bool m.yes, vl, vd] 65) = W := ⟨_, rfl⟩
  rw [hW1] at b10 E1
  have HL := Lib.hid (lent_any S v xs W1 (hv.keep b10) hx)
  have HB1 := Lib.hid b10
  have HE1 := Lib.hid E1
  have Hm := Lib.hid hm
  have Hv := Lib.hid hv
  have Hin := Lib.hid (And.intro hf (And.intro hx (And.intro hpf (And.intro huf (And.intro hX hU)))))
  obtain ⟨A, cA, rfl⟩ := hm.1.slice
  obtain ⟨D, cD, rfl⟩ := hm.2.1.slice
  obtain ⟨B, cB, rfl⟩ := hv.slice
  clear b10 E1 hm hv hf hx hpf huf hX hU
  go_enter Try.func9, Try.ntmps9
  go_wp2_with fail
  refine HL.out.mono ?_
  rintro _ W2 ⟨u, rfl, hl, hb⟩
  have HB2 := Lib.hid (HB1.out.trans (hb.mono HB1.out.size))
  have hE2 := blk_keep hb HE1.out
  obtain ⟨g, cap, rfl, hown⟩ := id hl
  have HLt := Lib.hid hl
  obtain ⟨⟨e0, e1, e2, e3, e4, e5, e6, e7, e8, e9, e10⟩, -⟩ := cells11 hE2
  have HE2 := Lib.hid hE2
  clear HL hl hb hown hE2
  go_wp2_with fail
  refine (packTo (S := S) m X pe _ _ W2 Hin.out.2.2.2.2.1 (Hm.out.keep HB2.out) Hin.out.1).mono ?_
  rintro _ W3 ⟨x, rfl, hX, hb⟩
  obtain ⟨AX, cX, rfl⟩ := hX.slice
  have HX := Lib.hid hX
  have HLt := Lib.hid (lent_keep HLt.out hb)
  have HB3 := Lib.hid (below_then HB2.out hb)
  have hE3 := blk_keep hb HE2.out
  clear e0 e1 e2 e3 e4 e5 e6 e7 e8 e9 e10
  obtain ⟨⟨e0, e1, e2, e3, e4, e5, e6, e7, e8, e9, e10⟩, -⟩ := cells11 hE3
  have HE3 := Lib.hid hE3
  clear hX hb hE3
  go_wp2_with fail
  refine (qpackTo (S := S) m X pe _ _ W3 Hin.out.2.2.2.2.1 (Hm.out.keep HB3.out) Hin.out.1).mono ?_
  rintro _ W4 ⟨y, rfl, hY, hb⟩
  obtain ⟨AY, cY, rfl⟩ := hY.slice
  have HY := Lib.hid hY
  have HX := Lib.hid (HX.out.keep hb)
  have HLt := Lib.hid (lent_keep HLt.out hb)
  have HB4 := Lib.hid (below_then HB3.out hb)
  have HE4 := Lib.hid (blk_keep hb HE3.out)
  clear hY hb e0 e1 e2 e3 e4 e5 e6 e7 e8 e9 e10
  go_wp2_with fail
  refine (unpTo (S := fun _ => True) _ xs m2 f2 W4 Hin.out.2.2.2.2.2 ((LentAt.bytes HLt.out).mono fun _ _ _ => trivial) (by have := Hin.out.2.1; omega)).mono ?_
  rintro _ W5 ⟨pl, pd, rfl, hp, hb⟩
  obtain ⟨AP, cP, rfl⟩ := hp.1.slice
  obtain ⟨DP, dP, rfl⟩ := hp.2.1.slice
  have b60 := box_below W5 (.cells #[.int .i64 m2.kind, .int .i64 m2.src, .int .i64 m2.dst, .int .i64 m2.term, .int .i64 m2.at_, .int .i64 m2.atTerm, .int .i64 m2.commit, .int .i64 m2.round, .bool m2.yes, (.slice AP m2.l.length cP), (.slice DP m2.data.length dP)] 65)
  have P6 := blk_new W5 (.cells #[.int .i64 m2.kind, .int .i64 m2.src, .int .i64 m2.dst, .int .i64 m2.term, .int .i64 m2.at_, .int .i64 m2.atTerm, .int .i64 m2.commit, .int .i64 m2.round, .bool m2.yes, (.slice AP m2.l.length cP), (.slice DP m2.data.length dP)] 65)
  obtain ⟨W6, hW6⟩ : ∃ W, W5.alloc (.cells #[.int .i64 m2.kind, .int .i64 m2.src, .int .i64 m2.dst, .int .i64 m2.term, .int .i64 m2.at_, .int .i64 m2.atTerm, .int .i64 m2.commit, .int .i64 m2.round, .bool m2.yes, (.slice AP m2.l.length cP), (.slice DP m2.data.length dP)] 65) = W := ⟨_, rfl⟩
  rw [hW6] at b60 P6
  have b6 := below_then hb b60
  have HX := Lib.hid (HX.out.keep b6)
  have HY := Lib.hid (HY.out.keep b6)
  have HLt := Lib.hid (lent_keep HLt.out b6)
  have HB6 := Lib.hid (below_then HB4.out b6)
  have HE6 := Lib.hid (blk_keep b6 HE4.out)
  have HP6 := Lib.hid P6
  have Hp6 := Lib.hid (hp.keep b60)
  clear b6 b60 P6 hp hb
  go_wp2_with fail
  clear hW6
  refine (qunpTo (S := S) _ xs m2 f2 W6 Hin.out.2.2.2.2.2 (Hv.out.keep HB6.out) (by have := Hin.out.2.1; omega)).mono ?_
  rintro _ W7 ⟨ql, qd, rfl, hq, hb⟩
  obtain ⟨AQ, cQ, rfl⟩ := hq.1.slice
  obtain ⟨DQ, dQ, rfl⟩ := hq.2.1.slice
  have b80 := box_below W7 (.cells #[.int .i64 m2.kind, .int .i64 m2.src, .int .i64 m2.dst, .int .i64 m2.term, .int .i64 m2.at_, .int .i64 m2.atTerm, .int .i64 m2.commit, .int .i64 m2.round, .bool m2.yes, (.slice AQ m2.l.length cQ), (.slice DQ m2.data.length dQ)] 65)
  have Q8 := blk_new W7 (.cells #[.int .i64 m2.kind, .int .i64 m2.src, .int .i64 m2.dst, .int .i64 m2.term, .int .i64 m2.at_, .int .i64 m2.atTerm, .int .i64 m2.commit, .int .i64 m2.round, .bool m2.yes, (.slice AQ m2.l.length cQ), (.slice DQ m2.data.length dQ)] 65)
  obtain ⟨W8, hW8⟩ : ∃ W, W7.alloc (.cells #[.int .i64 m2.kind, .int .i64 m2.src, .int .i64 m2.dst, .int .i64 m2.term, .int .i64 m2.at_, .int .i64 m2.atTerm, .int .i64 m2.commit, .int .i64 m2.round, .bool m2.yes, (.slice AQ m2.l.length cQ), (.slice DQ m2.data.length dQ)] 65) = W := ⟨_, rfl⟩
  rw [hW8] at b80 Q8
  have b8 := below_then hb b80
  have HX := Lib.hid (HX.out.keep b8)
  have HY := Lib.hid (HY.out.keep b8)
  have HLt := Lib.hid (lent_keep HLt.out b8)
  have HB8 := Lib.hid (below_then HB6.out b8)
  have HE8 := Lib.hid (blk_keep b8 HE6.out)
  have HP8 := Lib.hid (blk_keep b8 HP6.out)
  have Hp8 := Lib.hid (Hp6.out.keep b8)
  have HQ8 := Lib.hid Q8
  have Hq8 := Lib.hid (hq.keep b80)
  have sx := bytes_str HX.out
  have sy := bytes_str HY.out
  obtain ⟨⟨p0, p1, p2, p3, p4, p5, p6, p7, p8, p9, p10⟩, -⟩ := cells11 HP8.out
  obtain ⟨⟨q0, q1, q2, q3, q4, q5, q6, q7, q8, q9, q10⟩, -⟩ := cells11 HQ8.out
  clear b8 b80 Q8 hq hb
  go_wp2_with fail
  clear hW8
  refine (sameMsg_eq m2 _ _ _ _ W8 Hp8.out Hq8.out).mono ?_
  rintro _ W9 ⟨rfl, b9⟩
  have HB9 := Lib.hid (below_then HB8.out b9)
  have HX := Lib.hid (HX.out.keep b9)
  have HLt := Lib.hid (lent_keep HLt.out b9)
  have HE9 := Lib.hid (blk_keep b9 HE8.out)
  have HQ9 := Lib.hid (blk_keep b9 HQ8.out)
  have Hq9 := Lib.hid (Hq8.out.keep b9)
  have HK := Lib.hid (kept_any S _ _ _ xs W9 HLt.out (Hv.out.keep HB9.out) Hin.out.2.1)
  clear sx sy b9 p0 p1 p2 p3 p4 p5 p6 p7 p8 p9 p10 q0 q1 q2 q3 q4 q5 q6 q7 q8 q9 q10
  by_cases hf2 : f2 = 0
  · subst hf2
    obtain ⟨hpk, hfin⟩ := Hin.out.2.2.2.1 rfl
    have Hpk := Lib.hid (packTo m2 xs 0 _ _ W9 hpk Hq9.out hfin)
    obtain ⟨⟨q0, q1, q2, q3, q4, q5, q6, q7, q8, q9, q10⟩, -⟩ := cells11 HQ9.out
    clear hpk hfin
    go_wp2_with (go_at_call 31; refine HK.out.mono ?_; rintro _ _ ⟨rfl, rfl⟩)
    refine Hpk.out.mono ?_
    rintro _ W10 ⟨z, rfl, hZ, hb⟩
    obtain ⟨AZ, cZ, rfl⟩ := hZ.slice
    have HB10 := Lib.hid (below_then HB9.out hb)
    have HX := Lib.hid (HX.out.keep hb)
    have HE10 := Lib.hid (blk_keep hb HE9.out)
    have sz := bytes_str hZ
    have sb := bytes_str (Hv.out.keep HB10.out)
    clear hZ hb Hpk q0 q1 q2 q3 q4 q5 q6 q7 q8 q9 q10
    by_cases hpe : pe = 0
    · subst hpe
      obtain ⟨hun, hxl, -, -⟩ := Hin.out.2.2.1 rfl
      have Hun := Lib.hid (unpTo (S := (W2.heap.size ≤ ·)) _ X m 0 W10 hun HX.out hxl)
      clear hun hxl
      go_wp2_with fail
      refine Hun.out.mono ?_
      rintro _ W11 ⟨zl, zd, rfl, hz, hb⟩
      obtain ⟨AW, cW, rfl⟩ := hz.1.slice
      obtain ⟨DW, dW, rfl⟩ := hz.2.1.slice
      have b120 := box_below W11 (.cells #[.int .i64 m.kind, .int .i64 m.src, .int .i64 m.dst, .int .i64 m.term, .int .i64 m.at_, .int .i64 m.atTerm, .int .i64 m.commit, .int .i64 m.round, .bool m.yes, (.slice AW m.l.length cW), (.slice DW m.data.length dW)] 65)
      have Z12 := blk_new W11 (.cells #[.int .i64 m.kind, .int .i64 m.src, .int .i64 m.dst, .int .i64 m.term, .int .i64 m.at_, .int .i64 m.atTerm, .int .i64 m.commit, .int .i64 m.round, .bool m.yes, (.slice AW m.l.length cW), (.slice DW m.data.length dW)] 65)
      obtain ⟨W12, hW12⟩ : ∃ W, W11.alloc (.cells #[.int .i64 m.kind, .int .i64 m.src, .int .i64 m.dst, .int .i64 m.term, .int .i64 m.at_, .int .i64 m.atTerm, .int .i64 m.commit, .int .i64 m.round, .bool m.yes, (.slice AW m.l.length cW), (.slice DW m.data.length dW)] 65) = W := ⟨_, rfl⟩
      rw [hW12] at b120 Z12
      have b12 := below_then hb b120
      have HB12 := Lib.hid (below_then HB10.out b12)
      obtain ⟨⟨z0, z1, z2, z3, z4, z5, z6, z7, z8, z9, z10⟩, -⟩ := cells11 Z12
      obtain ⟨⟨e0, e1, e2, e3, e4, e5, e6, e7, e8, e9, e10⟩, -⟩ := cells11 (blk_keep b12 HE10.out)
      have Hz := Lib.hid (hz.keep b120)
      clear b12 b120 Z12 hz hb
      go_wp2_with fail
      refine (sameMsg_eq m _ _ _ _ W12 Hz.out (Hm.out.keep HB12.out)).mono ?_
      rintro _ W14 ⟨rfl, b14⟩
      have HB14 := Lib.hid (below_then HB12.out b14)
      clear b14
      go_wp2_with (go_at_call 12; refine (known_any _).mono ?_; rintro _ W15 ⟨rfl, hb15⟩)
      go_ret
      exact ⟨rfl, below_then HB14.out hb15⟩
    · have hpeb : (pe != 0) = true := by simpa using hpe
      clear hpe
      go_wp2_with (go_at_call 12; refine (known_any _).mono ?_; rintro _ W15 ⟨rfl, hb15⟩)
      go_ret
      exact ⟨rfl, below_then HB10.out hb15⟩
  · have hf2b : (f2 == 0) = false := by simpa using hf2
    clear hf2
    obtain ⟨W10, hW10⟩ : ∃ W, W = W9 := ⟨_, rfl⟩
    have HB10 : Hid (Below w.heap.size w W10) := by rw [hW10]; exact HB9
    have HE10 : Hid (W10.heap[w.heap.size]? = some (.cells #[.int .i64 m.kind, .int .i64 m.src, .int .i64 m.dst, .int .i64 m.term, .int .i64 m.at_, .int .i64 m.atTerm, .int .i64 m.commit, .int .i64 m.round, .bool m.yes, (.slice A m.l.length cA), (.slice D m.data.length cD)] 65 (0, 0))) := by rw [hW10]; exact HE9
    subst hW10
    by_cases hpe : pe = 0
    · subst hpe
      obtain ⟨hun, hxl, -, -⟩ := Hin.out.2.2.1 rfl
      have Hun := Lib.hid (unpTo (S := (W2.heap.size ≤ ·)) _ X m 0 W10 hun HX.out hxl)
      clear hun hxl
      go_wp2_with (go_at_call 31; refine HK.out.mono ?_; rintro _ _ ⟨rfl, rfl⟩)
      refine Hun.out.mono ?_
      rintro _ W11 ⟨zl, zd, rfl, hz, hb⟩
      obtain ⟨AW, cW, rfl⟩ := hz.1.slice
      obtain ⟨DW, dW, rfl⟩ := hz.2.1.slice
      have b120 := box_below W11 (.cells #[.int .i64 m.kind, .int .i64 m.src, .int .i64 m.dst, .int .i64 m.term, .int .i64 m.at_, .int .i64 m.atTerm, .int .i64 m.commit, .int .i64 m.round, .bool m.yes, (.slice AW m.l.length cW), (.slice DW m.data.length dW)] 65)
      have Z12 := blk_new W11 (.cells #[.int .i64 m.kind, .int .i64 m.src, .int .i64 m.dst, .int .i64 m.term, .int .i64 m.at_, .int .i64 m.atTerm, .int .i64 m.commit, .int .i64 m.round, .bool m.yes, (.slice AW m.l.length cW), (.slice DW m.data.length dW)] 65)
      obtain ⟨W12, hW12⟩ : ∃ W, W11.alloc (.cells #[.int .i64 m.kind, .int .i64 m.src, .int .i64 m.dst, .int .i64 m.term, .int .i64 m.at_, .int .i64 m.atTerm, .int .i64 m.commit, .int .i64 m.round, .bool m.yes, (.slice AW m.l.length cW), (.slice DW m.data.length dW)] 65) = W := ⟨_, rfl⟩
      rw [hW12] at b120 Z12
      have b12 := below_then hb b120
      have HB12 := Lib.hid (below_then HB10.out b12)
      obtain ⟨⟨z0, z1, z2, z3, z4, z5, z6, z7, z8, z9, z10⟩, -⟩ := cells11 Z12
      obtain ⟨⟨e0, e1, e2, e3, e4, e5, e6, e7, e8, e9, e10⟩, -⟩ := cells11 (blk_keep b12 HE10.out)
      have Hz := Lib.hid (hz.keep b120)
      clear b12 b120 Z12 hz hb
      go_wp2_with fail
      refine (sameMsg_eq m _ _ _ _ W12 Hz.out (Hm.out.keep HB12.out)).mono ?_
      rintro _ W14 ⟨rfl, b14⟩
      have HB14 := Lib.hid (below_then HB12.out b14)
      clear b14
      go_wp2_with (go_at_call 12; refine (known_any _).mono ?_; rintro _ W15 ⟨rfl, hb15⟩)
      go_ret
      exact ⟨rfl, below_then HB14.out hb15⟩
    · have hpeb : (pe != 0) = true := by simpa using hpe
      clear hpe
      go_wp2_with (first | (go_at_call 31; refine HK.out.mono ?_; rintro _ _ ⟨rfl, rfl⟩) | (go_at_call 12; refine (known_any _).mono ?_; rintro _ W15 ⟨rfl, hb15⟩))
      go_ret
      exact ⟨rfl, below_then HB10.out hb15⟩
end Go.Proofs.Ytoaoldhajpbenaa

namespace Go.Proofs.Ytoaoldhajpbenaa
open Go.ChangeShapes Go.WideShapes

section
variable {H : Type} {enc : TypeId × Value → H} {W : World} {base : Nat} {spare : Nat → Bool} {held : Bool}

theorem in64_wf {n : Int} (h : (Lit.int .i64 n).wf = true) : in64 n := by
  simp [Lit.wf, IntKind.min, IntKind.max, IntKind.bits, IntKind.signed] at h
  exact ⟨by omega, by omega⟩

theorem bytes_of_ints : ∀ (zs : List Int), (∀ n ∈ zs, (Lit.int .u8 n).wf = true) → byteCells (zs.map fun n => UInt8.ofNat n.toNat) = zs.map (Value.int .u8)
  | [], _ => rfl
  | z :: zs, h => by
    have h0 := h z (by simp)
    simp [Lit.wf, IntKind.min, IntKind.max, IntKind.bits, IntKind.signed] at h0
    have ih := bytes_of_ints zs (fun n hn => h n (by simp [hn]))
    simp only [List.map_cons, byteCells] at ih ⊢
    have e : ((UInt8.ofNat z.toNat).toNat : Int) = z := by
      show ((z.toNat % 256 : Nat) : Int) = z
      omega
    rw [e, ih]

theorem open_bytes {fuel : Nat} {v : Value} {x : DataW H × List MemPlace} (h : DataW.trod enc Try.prog W base spare held fuel 31 [v] = some x) : ∃ xs : List UInt8, Bytes (fun _ => True) W v xs := by
  rcases open_ints Try.underlying31 Try.underlying5 (by kernel_rfl) h with ⟨hcs, -⟩ | ⟨a, len, cap, zs, hcs, hb, hl, hm, hz, -, hcell, hw⟩
  · simp at hcs
    subst hcs
    exact ⟨[], rfl, .inl ⟨rfl, .inl rfl⟩⟩
  · simp at hcs
    subst hcs
    have hle : len ≤ zs.length := by rw [hz]; split <;> omega
    have hb' := bytes_of_ints (zs.take len) (fun n hn => hw n (List.mem_of_mem_take hn))
    refine ⟨(zs.take len).map fun n => UInt8.ofNat n.toNat, ?_⟩
    have e : ((zs.take len).map fun n => UInt8.ofNat n.toNat).length = len := by simp; omega
    unfold Bytes
    rw [e, hb']
    refine ⟨by simp; omega, ?_⟩
    rcases Nat.eq_zero_or_pos len with rfl | hp
    · exact .inl ⟨rfl, .inr ⟨a, cap, rfl⟩⟩
    · obtain ⟨b, off, spot⟩ := a
      have hc0 := hcell 0 (by omega)
      have hspot : spot = none := by simpa [Addr.add] using World.cell?_spot hc0
      subst hspot
      refine .inr ⟨b, off, cap, rfl, hl, hm, trivial, ?_, fun i u hu => ?_⟩
      · have := block_lt hc0
        rw [add_plain] at this
        exact this
      · have hi := (List.getElem?_eq_some_iff.1 hu).1
        simp at hi
        have := hcell i (by omega)
        rw [add_plain] at this
        rw [this]
        simp only [List.getElem?_map, List.getElem?_take] at hu
        rw [if_pos (by omega), List.getElem?_eq_getElem (by omega)] at hu
        simp at hu
        rw [← hu]
        simp [List.getD, List.getElem?_eq_getElem (show i < zs.length by omega)]

theorem open_entry {fuel : Nat} {cs : List Value} {x : DataW H × List MemPlace} (h : DataW.trod enc Try.prog W base spare held fuel 33 cs = some x) :
    ∃ (e : Ent) (v : Value), cs = [.int .i64 e.kind, .int .i64 e.term, v] ∧ in64 e.kind ∧ in64 e.term ∧ Bytes (fun _ => True) W v e.cmd := by
  obtain ⟨y0, y1, y2, n, -, hl, h0, h1, h2⟩ := Go.Deep.trod_struct3 Try.underlying33 h
  have hc : Try.prog.cellsOf 33 = 3 := by kernel_rfl
  have c0 : Try.prog.cellsOf 3 = 1 := by kernel_rfl
  have c1 : Try.prog.cellsOf 2 = 1 := by kernel_rfl
  have c2 : Try.prog.cellsOf 31 = 1 := by kernel_rfl
  rw [hc] at hl
  simp only [c0, c1, c2] at h0 h1 h2
  match cs, hl with
  | [a, b, v], _ =>
    obtain ⟨k, ek, -, hk⟩ := DataW.trod_int Try.underlying3 h0
    obtain ⟨t, et, -, ht⟩ := DataW.trod_int Try.underlying2 h1
    obtain ⟨xs, hx⟩ := open_bytes (v := v) h2
    simp at ek et
    subst ek et
    exact ⟨⟨k, t, xs⟩, v, rfl, in64_wf hk, in64_wf ht, hx⟩

theorem entCells_range {S : Nat → Prop} (f : Nat → Ent) (g : Nat → Value) : ∀ n, (∀ i, i < n → in64 (f i).kind ∧ in64 (f i).term ∧ Bytes S W (g i) (f i).cmd) →
    EntCells S W ((List.range n).map f) ((List.range n).flatMap fun i => [.int .i64 (f i).kind, .int .i64 (f i).term, g i])
  | 0, _ => rfl
  | n + 1, h => by
    rw [List.range_succ, List.map_append, List.flatMap_append]
    refine EntCells.append (entCells_range f g n (fun i hi => h i (by omega))) ?_
    obtain ⟨h1, h2, h3⟩ := h n (by omega)
    exact ⟨g n, [], rfl, h1, h2, h3, rfl⟩

theorem range_len3 (f : Nat → Ent) (g : Nat → Value) (n : Nat) : ((List.range n).flatMap fun i => [Value.int .i64 (f i).kind, .int .i64 (f i).term, g i]).length = n * 3 := by
  induction n with
  | zero => rfl
  | succ n ih => rw [List.range_succ, List.flatMap_append, List.length_append, ih]; simp; omega

theorem cells_range (f : Nat → Ent) (g : Nat → Value) (b o : Nat) : ∀ n, (∀ i, i < n → W.cell? ⟨b, o + i * 3, none⟩ = some (.int .i64 (f i).kind) ∧ W.cell? ⟨b, o + i * 3 + 1, none⟩ = some (.int .i64 (f i).term) ∧ W.cell? ⟨b, o + i * 3 + 2, none⟩ = some (g i)) →
    ∀ j u, ((List.range n).flatMap fun i => [Value.int .i64 (f i).kind, .int .i64 (f i).term, g i])[j]? = some u → W.cell? ⟨b, o + j, none⟩ = some u
  | 0, _, j, u, hu => by simp at hu
  | n + 1, h, j, u, hu => by
    rw [List.range_succ, List.flatMap_append] at hu
    by_cases hj : j < n * 3
    · rw [List.getElem?_append_left (by rw [range_len3]; exact hj)] at hu
      exact cells_range f g b o n (fun i hi => h i (by omega)) j u hu
    · rw [List.getElem?_append_right (by rw [range_len3]; omega), range_len3] at hu
      obtain ⟨h0, h1, h2⟩ := h n (by omega)
      obtain ⟨r, rfl⟩ : ∃ r, j = n * 3 + r := ⟨j - n * 3, by omega⟩
      rw [Nat.add_sub_cancel_left] at hu
      match r, hu with
      | 0, hu => simp at hu; rw [← hu]; exact h0
      | 1, hu => simp at hu; rw [← hu]; exact h1
      | 2, hu => simp at hu; rw [← hu]; exact h2
      | r + 3, hu => simp at hu

/-- Entries that came in. -/
theorem open_entries {fuel : Nat} {a : Option Addr} {len cap : Nat} {x : DataW H × List MemPlace} (h : DataW.trod enc Try.prog W base spare held fuel 22 [.slice a len cap] = some x) :
    (∃ es : List Ent, es.length = len ∧ Ents (fun _ => True) W (.slice a len cap) es) ∧ (len = 0 ∨ ∃ D S, x.1 = .slice D S ∧ D.length = len) := by
  have hc : Try.prog.cellsOf 33 = 3 := by kernel_rfl
  rcases Go.Deep.open_slice Try.underlying22 h with ⟨hcs, -⟩ | ⟨ad, l', c', m, n, D, Pl, hcs, hb, hl, hm, hmm, hx, hel⟩
  · simp at hcs
    obtain ⟨rfl, rfl, rfl⟩ := hcs
    exact ⟨⟨[], rfl, [], ⟨rfl, .inl ⟨rfl, .inl rfl⟩⟩, rfl⟩, .inl rfl⟩
  · simp at hcs
    obtain ⟨rfl, rfl, rfl⟩ := hcs
    refine ⟨?_, .inr ⟨_, _, by rw [hx], by simp⟩⟩
    have hlm : len ≤ m := by rw [hmm]; split <;> omega
    rcases Nat.eq_zero_or_pos len with rfl | hp
    · exact ⟨[], rfl, [], ⟨rfl, .inl ⟨rfl, .inr ⟨ad, cap, rfl⟩⟩⟩, rfl⟩
    · rw [hc] at hel
      have hch : ∀ i, i < len → ∃ p : Ent × Value, W.cell? (ad.add (i * 3)) = some (.int .i64 p.1.kind) ∧ W.cell? ((ad.add (i * 3)).add 1) = some (.int .i64 p.1.term) ∧ W.cell? ((ad.add (i * 3)).add 2) = some p.2 ∧
          in64 p.1.kind ∧ in64 p.1.term ∧ Bytes (fun _ => True) W p.2 p.1.cmd := by
        intro i hi
        obtain ⟨cs', h1, h2⟩ := hel i (by omega)
        obtain ⟨e, v, rfl, he1, he2, he3⟩ := open_entry h2
        obtain ⟨-, -, hce⟩ := World.cells?_some h1
        have z0 := hce 0 (by omega)
        have z1 := hce 1 (by omega)
        have z2 := hce 2 (by omega)
        simp only [List.getElem?_cons_zero, List.getElem?_cons_succ] at z0 z1 z2
        refine ⟨(e, v), ?_, z1, z2, he1, he2, he3⟩
        have e0 : (ad.add (i * 3)).add 0 = ad.add (i * 3) := by rw [Go.Deep.add_add]; rfl
        rwa [e0] at z0
      haveI : Inhabited (Ent × Value) := ⟨(⟨0, 0, []⟩, .nilIface)⟩
      obtain ⟨f, hf⟩ := Go.Deep.choose_lt hch
      obtain ⟨b, off, spot⟩ := ad
      have hc0 := (hf 0 hp).1
      have hspot : spot = none := by simpa [Addr.add] using World.cell?_spot hc0
      subst hspot
      have hcell : ∀ i, i < len → W.cell? ⟨b, off + i * 3, none⟩ = some (.int .i64 (f i).1.kind) ∧ W.cell? ⟨b, off + i * 3 + 1, none⟩ = some (.int .i64 (f i).1.term) ∧ W.cell? ⟨b, off + i * 3 + 2, none⟩ = some (f i).2 := by
        intro i hi
        obtain ⟨z0, z1, z2, -⟩ := hf i hi
        simp only [add_plain] at z0 z1 z2
        exact ⟨z0, z1, z2⟩
      refine ⟨(List.range len).map fun i => (f i).1, by simp, (List.range len).flatMap fun i => [.int .i64 (f i).1.kind, .int .i64 (f i).1.term, (f i).2], ?_, ?_⟩
      · refine ⟨by rw [range_len3 (fun i => (f i).1) (fun i => (f i).2)]; simp, .inr ⟨b, off, cap, by simp, by simpa using hl, hm, trivial, ?_, ?_⟩⟩
        · exact block_lt (hcell 0 hp).1
        · exact cells_range (fun i => (f i).1) (fun i => (f i).2) b off len hcell
      · exact entCells_range (fun i => (f i).1) (fun i => (f i).2) len fun i hi => ⟨(hf i hi).2.2.2.1, (hf i hi).2.2.2.2.1, (hf i hi).2.2.2.2.2⟩
end
end Go.Proofs.Ytoaoldhajpbenaa

namespace Go.Proofs.Ytoaoldhajpbenaa
open Go.ChangeShapes Go.WideShapes

section
variable {H : Type} {enc : TypeId × Value → H} {W : World} {base : Nat} {spare : Nat → Bool} {held : Bool}
theorem open_bytes_len {fuel : Nat} {a : Option Addr} {len cap : Nat} {x : DataW H × List MemPlace} (h : DataW.trod enc Try.prog W base spare held fuel 31 [.slice a len cap] = some x) :
    (∃ xs : List UInt8, xs.length = len ∧ Bytes (fun _ => True) W (.slice a len cap) xs) ∧ (len = 0 ∨ ∃ D S, x.1 = .slice D S ∧ D.length = len) := by
  obtain ⟨xs, hx⟩ := open_bytes h
  have hl : xs.length = len := by obtain ⟨A, c, e⟩ := hx.slice; injection e with _ e; exact e.symm
  refine ⟨⟨xs, hl, hx⟩, ?_⟩
  rcases open_ints Try.underlying31 Try.underlying5 (by kernel_rfl) h with ⟨hcs, -⟩ | ⟨a', len', cap', zs, hcs, hb, hl', hm, hz, hx', -, -⟩
  · simp at hcs
    exact .inl hcs.2.1
  · simp at hcs
    obtain ⟨rfl, rfl, rfl⟩ := hcs
    right
    refine ⟨_, _, by rw [hx'], ?_⟩
    have hle : len ≤ zs.length := by rw [hz]; split <;> omega
    simp [lits]
    omega
end
end Go.Proofs.Ytoaoldhajpbenaa
