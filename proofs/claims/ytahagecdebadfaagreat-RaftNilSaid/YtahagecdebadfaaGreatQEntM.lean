/- Texts that belong together, in one file: RefD, RefE, PckA, EntC, EntL, EntD, EntE, EntF, EntG, EntM. No statement is proved here. -/
import Derived.Test.YtahagecdebadfaaGreatQSliceB
import Derived.Test.YtahagecdebadfaaGreatQFldF
import Derived.Deep.RegionWith
import Derived.Deep.RegionHeld3
import Derived.Deep.DrawnRows
import Derived.Deep.RegionLaw
namespace Go.Proofs.YtahagecdebadfaaGreat
open Go.RowKit

end Go.Proofs.YtahagecdebadfaaGreat

namespace Go.Proofs.YtahagecdebadfaaGreat
open Go.RowKit

end Go.Proofs.YtahagecdebadfaaGreat

namespace Go.Proofs.YtahagecdebadfaaGreat
open Go.RowKit

theorem qcan_any (n : Int) (w : World) :
    Calls Tryz.prog 39 #[.int .i64 n] w fun e w' => e = .returned (.bool (mayB n)) ∧ w = w' := by
  go_enter Tryz.func39, Tryz.ntmps39
  go_wp2
  all_goals go_ret
  · rename_i h; exact ⟨by simp [mayB, h], rfl⟩
  · rename_i h; exact ⟨by simp [mayB]; omega, rfl⟩
theorem qmask_any (n : Int) (w : World) :
    Calls Tryz.prog 83 #[.int .i64 n] w fun e w' => e = .returned (.bool (maskB n)) ∧ w = w' := by
  go_enter Tryz.func83, Tryz.ntmps83
  go_wp2
  all_goals go_ret
  · rename_i h; exact ⟨by simp [maskB, h], rfl⟩
  · rename_i h; exact ⟨by simp [maskB]; omega, rfl⟩

set_option maxHeartbeats 2000000 in
theorem qright_any (k t : Int) (v : Value) (xs : List UInt8) {S : Nat → Prop} (w : World) (hv : Bytes S w v xs) :
    Calls Tryz.prog 89 #[.agg #[.int .i64 k, .int .i64 t, v]] w fun e w' => e = .returned (.bool (rightB ⟨k, t, xs⟩)) ∧ Below w.heap.size w w' := by
  by_cases h2 : k = 2 ∧ xs.length = 1
  · obtain ⟨rfl, hl⟩ := h2
    obtain ⟨b, o, c, rfl, hn, hc, _, hb, hcell⟩ := hv.form (by omega)
    have h0 := hcell 0 _ (byteCells_get xs 0 (by omega))
    rw [Nat.add_zero] at h0
    obtain ⟨x, rfl⟩ : ∃ x, xs = [x] := List.length_eq_one_iff.1 hl
    simp only [List.length_singleton, List.getElem_cons_zero] at h0 hn ⊢
    clear hcell
    cases hm : mayB t <;> cases hk : maskB (x.toNat : Int)
    all_goals
      by_cases ht : t < 1
      all_goals
        have hx := x.toNat_lt
        go_enter Tryz.func89, Tryz.ntmps89
        go_wp2_with (first | (go_at_call 39; refine (qcan_any _ _).mono ?_; rintro e w' ⟨rfl, rfl⟩) | (go_at_call 83; refine (qmask_any _ _).mono ?_; rintro e w' ⟨rfl, rfl⟩))
        all_goals go_ret
        all_goals refine ⟨?_, box_below _ _⟩
        all_goals first | (simp [rightB, hm, hk]; done) | (simp [rightB, hm, hk]; omega)
  · obtain ⟨A, c, rfl⟩ := hv.slice
    have hle := hv.le
    unfold maxLen at hle
    by_cases k0 : k < 0
    · go_enter Tryz.func89, Tryz.ntmps89
      go_wp2_with fail
      go_ret
      exact ⟨by simp [rightB]; omega, box_below _ _⟩
    · by_cases k2 : k > 2
      · go_enter Tryz.func89, Tryz.ntmps89
        go_wp2_with fail
        go_ret
        exact ⟨by simp [rightB]; omega, box_below _ _⟩
      · by_cases ht : t < 1
        · go_enter Tryz.func89, Tryz.ntmps89
          go_wp2_with fail
          go_ret
          exact ⟨by simp [rightB]; omega, box_below _ _⟩
        · cases hm : mayB t
          · go_enter Tryz.func89, Tryz.ntmps89
            go_wp2_with (go_at_call 39; refine (qcan_any _ _).mono ?_; rintro e w' ⟨rfl, rfl⟩)
            go_ret
            exact ⟨by simp [rightB, hm], box_below _ _⟩
          · by_cases hl : (xs.length : Int) > 4080
            · go_enter Tryz.func89, Tryz.ntmps89
              go_wp2_with (go_at_call 39; refine (qcan_any _ _).mono ?_; rintro e w' ⟨rfl, rfl⟩)
              go_ret
              have : rightB ⟨k, t, xs⟩ = false := by
                have : decide (xs.length ≤ 4080) = false := by simp; omega
                simp only [rightB, this, Bool.and_false, Bool.false_and]
              exact ⟨by rw [this]; rfl, box_below _ _⟩
            · by_cases hk2 : k = 2
              · subst hk2
                have hl1 : ((xs.length : Int) == 1) = false := by simp; omega
                have hr : rightB ⟨2, t, xs⟩ = false := by
                  have : decide (xs.length = 1) = false := by simp; omega
                  simp [rightB, this]
                have Hr := Lib.hid hr
                clear hr
                go_enter Tryz.func89, Tryz.ntmps89
                go_wp2_with (go_at_call 39; refine (qcan_any _ _).mono ?_; rintro e w' ⟨rfl, rfl⟩)
                go_ret
                exact ⟨by rw [Hr.out]; rfl, box_below _ _⟩
              · have hk1 : (k != 2) = true := by simpa using hk2
                go_enter Tryz.func89, Tryz.ntmps89
                go_wp2_with (go_at_call 39; refine (qcan_any _ _).mono ?_; rintro e w' ⟨rfl, rfl⟩)
                go_ret
                refine ⟨?_, box_below _ _⟩
                have h01 : k = 0 ∨ k = 1 := by omega
                have hl' : xs.length ≤ 4080 := by omega
                have ht' : 1 ≤ t := by omega
                have : rightB ⟨k, t, xs⟩ = true := by rcases h01 with rfl | rfl <;> simp [rightB, hm, hl', ht']
                rw [this]
                simp []

/-- An entry as bytes. -/
def encE (e : Ent) : List UInt8 := be 1 (e.kind + 64).toNat ++ be 6 e.term.toNat ++ be 2 e.cmd.length ++ e.cmd
theorem encE_length (e : Ent) : (encE e).length = 9 + e.cmd.length := by simp [encE, be_length]; omega
theorem rightB_facts {e : Ent} (h : rightB e = true) : 0 ≤ e.kind ∧ e.kind ≤ 2 ∧ 1 ≤ e.term ∧ e.term ≤ 1099511627776 ∧ e.cmd.length ≤ 4080 := by
  simp [rightB, mayB] at h
  omega

set_option maxHeartbeats 1000000 in
/-- An entry behind what a letter holds. -/
theorem lentry_ok (S : Nat → Prop) (B g : Nat) (xs : List UInt8) (e : Ent) (y : Value) (w : World) (h : WrS 176 S B w g xs 0) (hS : ∀ b, S b → b < w.heap.size) (hp : Bytes S w y e.cmd) (hr : rightB e = true) (hx : xs.length ≤ 90000000) :
    Calls Tryz.prog 122 #[.agg #[.pointer (some ⟨g, 0, none⟩)], .agg #[.int .i64 e.kind, .int .i64 e.term, y]] w fun r w' => (∃ v, r = .returned v) ∧ WrS 176 S B w' g (xs ++ encE e) 0 ∧ Same S w w' ∧ Below B w w' := by
  obtain ⟨k0, k2, t1, t2, cl⟩ := rightB_facts hr
  obtain ⟨hB, -⟩ := id h
  have hBw : B ≤ w.heap.size := by obtain ⟨-, -, v, hblk, -⟩ := h; have := (Array.getElem?_eq_some_iff.1 hblk).1; omega
  obtain ⟨k, t, cmd⟩ := e
  simp only at k0 k2 t1 t2 cl hp ⊢
  obtain ⟨A, c, rfl⟩ := hp.slice
  have hb0 := box_below w (.cells #[.pointer (some ⟨g, 0, none⟩)] 156)
  have hb1 := hb0.alloc hb0.size (.cells #[.int .i64 k, .int .i64 t, .slice A cmd.length c] 113)
  have hblkL := blk_alloc (blk_new w (.cells #[.pointer (some ⟨g, 0, none⟩)] 156)) (.cells #[.int .i64 k, .int .i64 t, .slice A cmd.length c] 113)
  have hblkE := blk_new (w.alloc (.cells #[.pointer (some ⟨g, 0, none⟩)] 156)) (.cells #[.int .i64 k, .int .i64 t, .slice A cmd.length c] 113)
  rw [World.size_alloc] at hblkE
  obtain ⟨l0, lf0⟩ := cells1 hblkL
  obtain ⟨a0, a1, a2, _, _, _⟩ := cells3 hblkE
  have HG := h.grow hb1
  have hs2 : ((w.alloc (.cells #[.pointer (some ⟨g, 0, none⟩)] 156)).alloc (.cells #[.int .i64 k, .int .i64 t, .slice A cmd.length c] 113)).heap.size = w.heap.size + 2 := by simp
  rw [hs2] at HG
  have hq : Bytes (fun b => S b ∨ w.heap.size ≤ b ∧ b < w.heap.size + 2) _ _ cmd := (hp.keep hb1).mono fun b _ h => Or.inl h
  obtain ⟨W0, hW0⟩ : ∃ W0, (w.alloc (.cells #[.pointer (some ⟨g, 0, none⟩)] 156)).alloc (.cells #[.int .i64 k, .int .i64 t, .slice A cmd.length c] 113) = W0 := ⟨_, rfl⟩
  rw [hW0] at hb1 l0 a0 a1 a2 HG hs2 hq
  obtain ⟨S2, hS2⟩ : ∃ S2 : Nat → Prop, S2 = fun b => S b ∨ w.heap.size ≤ b ∧ b < w.heap.size + 2 := ⟨_, rfl⟩
  rw [← hS2] at HG hq
  have hSL : S2 w.heap.size := by rw [hS2]; exact .inr ⟨Nat.le_refl _, by omega⟩
  have hSE : S2 (w.heap.size + 1) := by rw [hS2]; exact .inr ⟨by omega, by omega⟩
  have hS2w : ∀ b, S2 b → b < W0.heap.size := by
    intro b hb
    rw [hS2] at hb
    rw [hs2]
    rcases hb with hb | hb
    · have := hS b hb; omega
    · omega
  have hSS2 : ∀ b, S b → S2 b := fun b hb => by rw [hS2]; exact .inl hb
  have K := Lib.hid (And.intro hW0 (And.intro hS2w (And.intro hSS2 (And.intro hb1 (And.intro hx cl)))))
  have HQ := Lib.hid hq
  have HSL := Lib.hid (And.intro hSL hSE)
  have HH := Lib.hid HG
  have Hbl0 := Lib.hid (Same.of_below' hb1 S)
  clear h hS hp hr hb0 hb1 hblkL hblkE HG hs2 hq hS2 hSL hSE hS2w hSS2 hx cl lf0
  go_enter Tryz.func122, Tryz.ntmps122
  go_wp2_with fail
  clear hW0
  refine (wnum_at1 S2 B g xs (k + 64) W0 HH.out K.out.2.1 (by omega) (by omega) (by have := K.out; omega)).mono ?_
  rintro _ w1 ⟨⟨v1, rfl⟩, hw1, hsm1, hbl1⟩
  have l0' := hsm1.cell HSL.out.1 l0
  have b1 := hsm1.cell HSL.out.2 a1
  have b2 := hsm1.cell HSL.out.2 a2
  have HW1 := Lib.hid hw1
  have HS1 := Lib.hid hsm1
  clear hw1 hsm1
  go_wp2_with fail
  refine (wnum_at6 S2 B g _ t w1 HW1.out (fun b hb => Nat.lt_of_lt_of_le (K.out.2.1 b hb) HS1.out.size) (by omega) (by omega) (by have := K.out; simp [be_length]; omega)).mono ?_
  rintro _ w2 ⟨⟨v2, rfl⟩, hw2, hsm2, hbl2⟩
  have l0'' := hsm2.cell HSL.out.1 l0'
  have c2 := hsm2.cell HSL.out.2 b2
  have HW2 := Lib.hid hw2
  have HS2 := Lib.hid (HS1.out.trans hsm2)
  clear hw2 hsm2
  go_wp2_with fail
  refine (wbytes_at2 S2 B g _ cmd _ w2 HW2.out (fun b hb => Nat.lt_of_lt_of_le (K.out.2.1 b hb) HS2.out.size) (HQ.out.keepS HS2.out) (by have := K.out; simp [be_length]; omega) (by have := K.out; omega)).mono ?_
  rintro _ w3 ⟨⟨v3, rfl⟩, hw3, hsm3, hbl3⟩
  have HW3 := Lib.hid hw3
  have HS3 := Lib.hid (HS2.out.trans hsm3)
  have HB3 := Lib.hid (((K.out.2.2.2.1.mono hBw).trans hbl1).trans (hbl2.trans hbl3))
  clear hw3 hsm3 hbl1 hbl2 hbl3
  go_wp2_with fail
  go_end0
  refine ⟨⟨_, rfl⟩, ?_, Hbl0.out.trans (HS3.out.mono K.out.2.2.1), HB3.out⟩
  have h := HW3.out.mono (S' := S) K.out.2.2.1
  simpa [encE, List.append_assoc] using h
end Go.Proofs.YtahagecdebadfaaGreat

namespace Go.Proofs.YtahagecdebadfaaGreat
open Go.RowKit

/-- The cells of entries. -/
def EntCells (S : Nat → Prop) (w : World) : List Ent → List Value → Prop
  | [], cs => cs = []
  | e :: es, cs => ∃ v cs', cs = .int .i64 e.kind :: .int .i64 e.term :: v :: cs' ∧ in64 e.kind ∧ in64 e.term ∧ Bytes S w v e.cmd ∧ EntCells S w es cs'
def Ents (S : Nat → Prop) (w : World) (v : Value) (es : List Ent) : Prop := ∃ cs, RowAt S w v es.length 3 cs ∧ EntCells S w es cs

theorem EntCells.keepS {S : Nat → Prop} {w w' : World} (hs : Same S w w') : ∀ {es : List Ent} {cs : List Value}, EntCells S w es cs → EntCells S w' es cs
  | [], _, h => h
  | _ :: _, _, ⟨v, cs', hc, h1, h2, hb, hr⟩ => ⟨v, cs', hc, h1, h2, hb.keepS hs, EntCells.keepS hs hr⟩
theorem EntCells.mono {S T : Nat → Prop} {w : World} (hT : ∀ b, b < w.heap.size → S b → T b) : ∀ {es : List Ent} {cs : List Value}, EntCells S w es cs → EntCells T w es cs
  | [], _, h => h
  | _ :: _, _, ⟨v, cs', hc, h1, h2, hb, hr⟩ => ⟨v, cs', hc, h1, h2, hb.mono hT, EntCells.mono hT hr⟩
theorem EntCells.length {S : Nat → Prop} {w : World} : ∀ {es : List Ent} {cs : List Value}, EntCells S w es cs → cs.length = es.length * 3
  | [], _, h => by cases h; rfl
  | _ :: es, _, ⟨v, cs', hc, _, _, _, hr⟩ => by have := EntCells.length hr; subst hc; simp; omega
theorem EntCells.append {S : Nat → Prop} {w : World} : ∀ {es fs : List Ent} {cs ds : List Value}, EntCells S w es cs → EntCells S w fs ds → EntCells S w (es ++ fs) (cs ++ ds)
  | [], _, _, _, h, k => by cases h; exact k
  | _ :: _, _, _, _, ⟨v, cs', hc, h1, h2, hb, hr⟩, k => ⟨v, cs' ++ _, by subst hc; rfl, h1, h2, hb, EntCells.append hr k⟩
/-- The cells of one entry. -/
theorem EntCells.at {S : Nat → Prop} {w : World} : ∀ {es : List Ent} {cs : List Value}, EntCells S w es cs → ∀ i (h : i < es.length),
    ∃ v, cs[i * 3]? = some (.int .i64 es[i].kind) ∧ cs[i * 3 + 1]? = some (.int .i64 es[i].term) ∧ cs[i * 3 + 2]? = some v ∧ in64 es[i].kind ∧ in64 es[i].term ∧ Bytes S w v es[i].cmd
  | [], _, _, i, h => by simp at h
  | e :: es, _, ⟨v, cs', hc, h1, h2, hb, hr⟩, 0, h => ⟨v, by simp [hc], by simp [hc], by simp [hc], h1, h2, hb⟩
  | e :: es, _, ⟨v, cs', hc, h1, h2, hb, hr⟩, i + 1, h => by
    obtain ⟨u, ha, hb', hc', hd⟩ := EntCells.at hr i (by simpa using h)
    refine ⟨u, ?_, ?_, ?_, by simpa using hd⟩
    · rw [hc, show (i + 1) * 3 = i * 3 + 3 by omega]; simpa using ha
    · rw [hc, show (i + 1) * 3 + 1 = i * 3 + 1 + 3 by omega]; simpa using hb'
    · rw [hc, show (i + 1) * 3 + 2 = i * 3 + 2 + 3 by omega]; simpa using hc'
theorem EntCells.drop {S : Nat → Prop} {w : World} : ∀ {es : List Ent} {cs : List Value} (k : Nat), EntCells S w es cs → EntCells S w (es.drop k) (cs.drop (k * 3))
  | _, _, 0, h => by simpa using h
  | [], _, k + 1, h => by cases h; simp [EntCells]
  | e :: es, _, k + 1, ⟨v, cs', hc, h1, h2, hb, hr⟩ => by
    have := EntCells.drop k hr
    rw [hc, show (k + 1) * 3 = k * 3 + 3 by omega]
    simpa using this
theorem EntCells.take {S : Nat → Prop} {w : World} : ∀ {es : List Ent} {cs : List Value} (k : Nat), EntCells S w es cs → EntCells S w (es.take k) (cs.take (k * 3))
  | _, _, 0, h => by simp [EntCells]
  | [], _, k + 1, h => by cases h; simp [EntCells]
  | e :: es, _, k + 1, ⟨v, cs', hc, h1, h2, hb, hr⟩ => by
    have := EntCells.take k hr
    rw [hc, show (k + 1) * 3 = k * 3 + 3 by omega]
    exact ⟨v, cs'.take (k * 3), by simp, h1, h2, hb, this⟩
theorem Ents.keepS {S : Nat → Prop} {w w' : World} {v : Value} {es : List Ent} (h : Ents S w v es) (hs : Same S w w') : Ents S w' v es := by
  obtain ⟨cs, hr, he⟩ := h; exact ⟨cs, hr.keepS hs, he.keepS hs⟩
theorem Ents.keep {S : Nat → Prop} {w w' : World} {v : Value} {es : List Ent} (h : Ents S w v es) (hb : Below w.heap.size w w') : Ents S w' v es := h.keepS (Same.of_below' hb S)
theorem Ents.mono {S T : Nat → Prop} {w : World} {v : Value} {es : List Ent} (h : Ents S w v es) (hT : ∀ b, b < w.heap.size → S b → T b) : Ents T w v es := by
  obtain ⟨cs, hr, he⟩ := h; exact ⟨cs, hr.mono hT, he.mono hT⟩
theorem Ents.slice {S : Nat → Prop} {w : World} {v : Value} {es : List Ent} (h : Ents S w v es) : ∃ A c, v = .slice A es.length c := by
  obtain ⟨cs, hr, he⟩ := h; exact hr.slice

/-- A part of a log: its floor, or a run. -/
inductive Part where
  | ground (at_ term members : Int)
  | run (from_ : Int) (l : List Ent)
def headTerm (l : List Ent) : Int := match l with | [] => 0 | e :: _ => e.term
def Part.lastAt : Part → Int
  | .ground a _ _ => a
  | .run f l => f + l.length - 1
def Part.lastTerm : Part → Int
  | .ground _ t _ => t
  | .run _ l => headTerm l
def Part.has (n : Int) : Part → Bool
  | .ground a _ _ => decide (n = a)
  | .run f l => decide (f ≤ n) && decide (n ≤ f + l.length - 1)
/-- Within bounds: nothing goes round. -/
def Part.ok : Part → Prop
  | .ground a _ _ => 0 ≤ a ∧ a ≤ 1099511627776
  | .run f l => 0 ≤ f ∧ f ≤ 2199023255552 ∧ 0 < l.length ∧ l.length ≤ 4096
def PartV (S : Nat → Prop) (w : World) (v : Value) : Part → Prop
  | .ground a t m => v = .iface 122 (.agg #[.int .i64 a, .int .i64 t, .int .i64 m])
  | .run f l => ∃ sv, v = .iface 131 (.agg #[.int .i64 f, sv]) ∧ Ents S w sv l
theorem PartV.keepS {S : Nat → Prop} {w w' : World} {v : Value} {p : Part} (h : PartV S w v p) (hs : Same S w w') : PartV S w' v p := by
  cases p with
  | ground a t m => exact h
  | run f l => obtain ⟨sv, hv, he⟩ := h; exact ⟨sv, hv, he.keepS hs⟩
theorem PartV.keep {S : Nat → Prop} {w w' : World} {v : Value} {p : Part} (h : PartV S w v p) (hb : Below w.heap.size w w') : PartV S w' v p := h.keepS (Same.of_below' hb S)
theorem PartV.mono {S T : Nat → Prop} {w : World} {v : Value} {p : Part} (h : PartV S w v p) (hT : ∀ b, b < w.heap.size → S b → T b) : PartV T w v p := by
  cases p with
  | ground a t m => exact h
  | run f l => obtain ⟨sv, hv, he⟩ := h; exact ⟨sv, hv, he.mono hT⟩
def PartCells (S : Nat → Prop) (w : World) : List Part → List Value → Prop
  | [], vs => vs = []
  | p :: ps, vs => ∃ v vs', vs = v :: vs' ∧ PartV S w v p ∧ PartCells S w ps vs'
theorem PartCells.keepS {S : Nat → Prop} {w w' : World} (hs : Same S w w') : ∀ {ps : List Part} {vs : List Value}, PartCells S w ps vs → PartCells S w' ps vs
  | [], _, h => h
  | _ :: _, _, ⟨v, vs', hc, hv, hr⟩ => ⟨v, vs', hc, hv.keepS hs, PartCells.keepS hs hr⟩
theorem PartCells.mono {S T : Nat → Prop} {w : World} (hT : ∀ b, b < w.heap.size → S b → T b) : ∀ {ps : List Part} {vs : List Value}, PartCells S w ps vs → PartCells T w ps vs
  | [], _, h => h
  | _ :: _, _, ⟨v, vs', hc, hv, hr⟩ => ⟨v, vs', hc, hv.mono hT, PartCells.mono hT hr⟩
theorem PartCells.length {S : Nat → Prop} {w : World} : ∀ {ps : List Part} {vs : List Value}, PartCells S w ps vs → vs.length = ps.length
  | [], _, h => by cases h; rfl
  | _ :: _, _, ⟨v, vs', hc, _, hr⟩ => by have := PartCells.length hr; subst hc; simp [this]
theorem PartCells.at {S : Nat → Prop} {w : World} : ∀ {ps : List Part} {vs : List Value}, PartCells S w ps vs → ∀ i (h : i < ps.length), ∃ v, vs[i]? = some v ∧ PartV S w v ps[i]
  | [], _, _, i, h => by simp at h
  | p :: ps, _, ⟨v, vs', hc, hv, hr⟩, 0, h => ⟨v, by simp [hc], hv⟩
  | p :: ps, _, ⟨v, vs', hc, hv, hr⟩, i + 1, h => by
    obtain ⟨u, hu, hp⟩ := PartCells.at hr i (by simpa using h)
    exact ⟨u, by simpa [hc] using hu, by simpa using hp⟩
theorem PartCells.append {S : Nat → Prop} {w : World} : ∀ {ps qs : List Part} {vs us : List Value}, PartCells S w ps vs → PartCells S w qs us → PartCells S w (ps ++ qs) (vs ++ us)
  | [], _, _, _, h, k => by cases h; exact k
  | _ :: _, _, _, _, ⟨v, vs', hc, hv, hr⟩, k => ⟨v, vs' ++ _, by subst hc; rfl, hv, PartCells.append hr k⟩
theorem PartCells.take {S : Nat → Prop} {w : World} : ∀ {ps : List Part} {vs : List Value} (k : Nat), PartCells S w ps vs → PartCells S w (ps.take k) (vs.take k)
  | _, _, 0, _ => by simp [PartCells]
  | [], _, k + 1, h => by cases h; simp [PartCells]
  | _ :: _, _, k + 1, ⟨v, vs', hc, hv, hr⟩ => by subst hc; exact ⟨v, vs'.take k, by simp, hv, PartCells.take k hr⟩
theorem PartCells.drop {S : Nat → Prop} {w : World} : ∀ {ps : List Part} {vs : List Value} (k : Nat), PartCells S w ps vs → PartCells S w (ps.drop k) (vs.drop k)
  | _, _, 0, h => by simpa using h
  | [], _, k + 1, h => by cases h; simp [PartCells]
  | _ :: _, _, k + 1, ⟨v, vs', hc, hv, hr⟩ => by subst hc; simpa using PartCells.drop k hr
theorem PartV.one {S : Nat → Prop} {w : World} {v : Value} {p : Part} (h : PartV S w v p) : v.oneCell' = true := by
  cases p with
  | ground a t m => cases h; rfl
  | run f l => obtain ⟨sv, rfl, _⟩ := h; rfl
theorem PartCells.one {S : Nat → Prop} {w : World} : ∀ {ps : List Part} {vs : List Value}, PartCells S w ps vs → ∀ u ∈ vs, u.oneCell' = true
  | [], _, h => by cases h; simp
  | _ :: _, _, ⟨v, vs', hc, hv, hr⟩ => by
    subst hc
    intro u hu
    rcases List.mem_cons.1 hu with rfl | hu
    · exact hv.one
    · exact PartCells.one hr u hu

/-- A log: a pointer to its parts. -/
def LogAt (S : Nat → Prop) (w : World) (v : Value) (ps : List Part) : Prop :=
  ∃ b sv vs, v = .pointer (some ⟨b, 0, none⟩) ∧ S b ∧ w.cell? ⟨b, 0, none⟩ = some sv ∧ RowAt S w sv ps.length 1 vs ∧ PartCells S w ps vs
theorem LogAt.keepS {S : Nat → Prop} {w w' : World} {v : Value} {ps : List Part} (h : LogAt S w v ps) (hs : Same S w w') : LogAt S w' v ps := by
  obtain ⟨b, sv, vs, hv, hb, hc, hr, hp⟩ := h
  exact ⟨b, sv, vs, hv, hb, hs.cell (p := ⟨b, 0, none⟩) hb hc, hr.keepS hs, hp.keepS hs⟩
theorem LogAt.keep {S : Nat → Prop} {w w' : World} {v : Value} {ps : List Part} (h : LogAt S w v ps) (hb : Below w.heap.size w w') : LogAt S w' v ps := h.keepS (Same.of_below' hb S)
theorem LogAt.mono {S T : Nat → Prop} {w : World} {v : Value} {ps : List Part} (h : LogAt S w v ps) (hT : ∀ b, b < w.heap.size → S b → T b) : LogAt T w v ps := by
  obtain ⟨b, sv, vs, hv, hb, hc, hr, hp⟩ := h
  exact ⟨b, sv, vs, hv, hT b (block_lt hc) hb, hc, hr.mono hT, hp.mono hT⟩

theorem last_ground (a t m : Int) (w : World) :
    Calls Tryz.prog 168 #[.agg #[.int .i64 a, .int .i64 t, .int .i64 m]] w fun e w' => e = .returned (.tuple #[.int .i64 a, .int .i64 t]) ∧ Below w.heap.size w w' := by
  go_enter Tryz.func168, Tryz.ntmps168
  go_wp2
  go_quiet (fail)
  go_wp2
  go_ret2
  exact ⟨rfl, below_drewN (box_below _ _) _⟩
theorem last_run (f t : Int) (b o n c : Nat) (w : World) (h : w.cell? ⟨b, o + 1, none⟩ = some (.int .i64 t)) (hn : 0 < n) (hn' : n ≤ 4096) (h0 : 0 ≤ f) (h1 : f ≤ 2199023255552) :
    Calls Tryz.prog 169 #[.agg #[.int .i64 f, .slice (some ⟨b, o, none⟩) n c]] w fun e w' => e = .returned (.tuple #[.int .i64 (f + n - 1), .int .i64 t]) ∧ Below w.heap.size w w' := by
  have h' := fun o' => cell_keep (box_below w o') h
  have hn2 : (0 : Int) < (n : Int) := by omega
  go_enter Tryz.func169, Tryz.ntmps169
  go_wp2
  go_quiet (fail)
  go_wp2
  go_ret2
  exact ⟨rfl, below_drewN (box_below _ _) _⟩

theorem method_ground (n : Nat) (v : Value) (w : World) : (method (n + 1) 122 v "caisson/entries.last").run Tryz.prog w = .ok (168, v) w := by kernel_rfl
theorem method_run (n : Nat) (v : Value) (w : World) : (method (n + 1) 131 v "caisson/entries.last").run Tryz.prog w = .ok (169, v) w := by kernel_rfl
theorem ahead_ground (n : Nat) (v : Value) (w : World) : (nilAhead (n + 1) 122 v "caisson/entries.last").run Tryz.prog w = .ok (some false) w := by kernel_rfl
theorem ahead_run (n : Nat) (v : Value) (w : World) : (nilAhead (n + 1) 131 v "caisson/entries.last").run Tryz.prog w = .ok (some false) w := by kernel_rfl
theorem assert_gg (v : Value) (w : World) : (Instr.typeAssert (.iface 122 v) 128 122 true).run Tryz.prog w = .ok (.tuple #[v, .bool true]) w := by kernel_rfl
theorem assert_rr (v : Value) (w : World) : (Instr.typeAssert (.iface 131 v) 128 131 true).run Tryz.prog w = .ok (.tuple #[v, .bool true]) w := by kernel_rfl
theorem assert_gr (v : Value) (w : World) : (Instr.typeAssert (.iface 122 v) 128 131 true).run Tryz.prog w = .ok (.tuple #[.agg #[.int .i64 0, .slice none 0 0], .bool false]) w := by kernel_rfl
theorem assert_rg (v : Value) (w : World) : (Instr.typeAssert (.iface 131 v) 128 122 true).run Tryz.prog w = .ok (.tuple #[.agg #[.int .i64 0, .int .i64 0, .int .i64 0], .bool false]) w := by kernel_rfl
theorem assert_nr (w : World) : (Instr.typeAssert .nilIface 128 131 true).run Tryz.prog w = .ok (.tuple #[.agg #[.int .i64 0, .slice none 0 0], .bool false]) w := by kernel_rfl
attribute [go_sem] method_ground method_run ahead_ground ahead_run assert_gg assert_rr assert_gr assert_rg assert_nr
end Go.Proofs.YtahagecdebadfaaGreat

namespace Go.Proofs.YtahagecdebadfaaGreat

/-- A log: its floor and its runs. -/
structure Lg where
  a : Int
  t : Int
  m : Int
  rs : List (Int × List Ent)
def Lg.parts (g : Lg) : List Part := .ground g.a g.t g.m :: g.rs.map fun r => .run r.1 r.2
def allOf (rs : List (Int × List Ent)) : List Ent := rs.flatMap (·.2)
def Lg.ents (g : Lg) : List Ent := allOf g.rs
/-- Runs one behind the other, their terms rising. -/
def Chain (p t : Int) : List (Int × List Ent) → Prop
  | [] => True
  | (f, l) :: rs => f = p ∧ l ≠ [] ∧ (∀ e ∈ l, e.term = headTerm l ∧ rightB e = true) ∧ t ≤ headTerm l ∧ Chain (f + l.length) (headTerm l + 1) rs
structure Lg.Good (g : Lg) : Prop where
  a0 : 0 ≤ g.a
  a1 : g.a ≤ 1099511627776
  t0 : 0 ≤ g.t
  t1 : g.t ≤ 1099511627776
  m0 : 1 ≤ g.m
  m1 : g.m ≤ 31
  chain : Chain (g.a + 1) g.t g.rs
  len : g.ents.length ≤ 4096
def Lg.top (g : Lg) : Int := g.a + g.ents.length
def Lg.termAt (g : Lg) (n : Int) : Int :=
  if n = g.a then g.t else if g.a < n ∧ n ≤ g.top then ((g.ents[(n - g.a - 1).toNat]?).map (·.term)).getD 0 else -1

theorem allOf_cons (r : Int × List Ent) (rs : List (Int × List Ent)) : allOf (r :: rs) = r.2 ++ allOf rs := by simp [allOf]
theorem allOf_append (rs qs : List (Int × List Ent)) : allOf (rs ++ qs) = allOf rs ++ allOf qs := by simp [allOf]

theorem Chain.at {p t : Int} : ∀ {rs : List (Int × List Ent)}, Chain p t rs → ∀ j (h : j < rs.length), rs[j].1 = p + (allOf (rs.take j)).length ∧ rs[j].2 ≠ [] ∧ (∀ e ∈ rs[j].2, e.term = headTerm rs[j].2 ∧ rightB e = true) ∧ t ≤ headTerm rs[j].2
  | [], _, j, h => by simp at h
  | (f, l) :: rs, ⟨h1, h2, h3, h4, h5⟩, 0, _ => ⟨by simp [allOf, h1], h2, h3, h4⟩
  | (f, l) :: rs, ⟨h1, h2, h3, h4, h5⟩, j + 1, h => by
    obtain ⟨a1, a2, a3, a4⟩ := Chain.at h5 j (by simpa using h)
    refine ⟨?_, by simpa using a2, by simpa using a3, by simp at a4 ⊢; omega⟩
    simp [allOf_cons] at a1 ⊢
    omega

theorem take_at (rs : List (Int × List Ent)) (j : Nat) (h : j < rs.length) : allOf rs = allOf (rs.take j) ++ (rs[j].2 ++ allOf (rs.drop (j + 1))) := by
  have e : rs = rs.take j ++ rs[j] :: rs.drop (j + 1) := by simp
  calc allOf rs = allOf (rs.take j ++ rs[j] :: rs.drop (j + 1)) := by rw [← e]
    _ = _ := by rw [allOf_append, allOf_cons]

theorem len_le_at (rs : List (Int × List Ent)) (j : Nat) (h : j < rs.length) : (allOf (rs.take j)).length + rs[j].2.length ≤ (allOf rs).length := by
  rw [take_at rs j h]; simp

/-- Each place above the floor lies in a run. -/
theorem Chain.find {p t : Int} : ∀ {rs : List (Int × List Ent)}, Chain p t rs → ∀ n : Int, p ≤ n → n < p + (allOf rs).length → ∃ j, ∃ h : j < rs.length, rs[j].1 ≤ n ∧ n ≤ rs[j].1 + rs[j].2.length - 1
  | [], _, n, h1, h2 => by simp [allOf] at h2; omega
  | (f, l) :: rs, ⟨e1, e2, e3, e4, e5⟩, n, h1, h2 => by
    by_cases hn : n ≤ f + l.length - 1
    · exact ⟨0, by simp, by simp; omega, by simpa using hn⟩
    · obtain ⟨j, hj, a1, a2⟩ := Chain.find e5 n (by omega) (by simp [allOf_cons] at h2; omega)
      exact ⟨j + 1, by simpa using hj, by simpa using a1, by simpa using a2⟩

theorem Lg.parts_length (g : Lg) : g.parts.length = g.rs.length + 1 := by simp [Lg.parts]
theorem Lg.parts_zero (g : Lg) : g.parts[0]'(by simp [Lg.parts]) = .ground g.a g.t g.m := rfl
theorem Lg.parts_succ (g : Lg) (j : Nat) (h : j < g.rs.length) : g.parts[j + 1]'(by simp [Lg.parts]; omega) = .run g.rs[j].1 g.rs[j].2 := by simp [Lg.parts]

theorem runs_le_all : ∀ (rs : List (Int × List Ent)), (∀ r ∈ rs, r.2 ≠ []) → rs.length ≤ (allOf rs).length
  | [], _ => by simp
  | r :: rs, h => by
    have := runs_le_all rs (fun q hq => h q (by simp [hq]))
    have h1 := List.length_pos_iff.2 (h r (by simp))
    simp [allOf_cons]; omega
theorem Chain.ne {p t : Int} : ∀ {rs : List (Int × List Ent)}, Chain p t rs → ∀ r ∈ rs, r.2 ≠ []
  | [], _, r, h => by simp at h
  | (f, l) :: rs, ⟨_, e2, _, _, e5⟩, r, h => by
    rcases List.mem_cons.1 h with rfl | h
    · exact e2
    · exact Chain.ne e5 r h

theorem Lg.Good.run_ok {g : Lg} (h : g.Good) (j : Nat) (hj : j < g.rs.length) : (Part.run g.rs[j].1 g.rs[j].2).ok := by
  obtain ⟨a1, a2, _⟩ := h.chain.at j hj
  have := len_le_at g.rs j hj
  have := h.len; have := h.a0; have := h.a1
  have := List.length_pos_iff.2 a2
  unfold Lg.ents at *
  exact ⟨by omega, by omega, by omega, by omega⟩
theorem Lg.Good.ok {g : Lg} (h : g.Good) : ∀ q ∈ g.parts, q.ok := by
  intro q hq
  obtain ⟨i, hi, rfl⟩ := List.getElem_of_mem hq
  cases i with
  | zero => exact ⟨h.a0, h.a1⟩
  | succ j => rw [g.parts_succ j (by simpa [Lg.parts] using hi)]; exact h.run_ok j _
theorem Lg.Good.parts_le {g : Lg} (h : g.Good) : g.parts.length ≤ 4097 := by
  have := runs_le_all g.rs h.chain.ne
  have := h.len
  unfold Lg.ents at *
  rw [g.parts_length]; omega

/-- A place that no part has is below the floor or above the top. -/
theorem Lg.Good.noPart {g : Lg} (h : g.Good) {n : Int} (hn : ∀ j (hj : j < g.parts.length), g.parts[j].has n = false) : n < g.a ∨ g.top < n := by
  by_cases h1 : n < g.a
  · exact .inl h1
  · have h0 := hn 0 (by simp [Lg.parts])
    rw [g.parts_zero] at h0
    simp [Part.has] at h0
    by_cases h2 : g.top < n
    · exact .inr h2
    · exfalso
      unfold Lg.top Lg.ents at h2
      obtain ⟨j, hj, a1, a2⟩ := h.chain.find n (by omega) (by omega)
      have := hn (j + 1) (by simp [Lg.parts]; omega)
      rw [g.parts_succ j hj] at this
      simp [Part.has] at this
      omega
theorem Lg.termAt_none {g : Lg} {n : Int} (h : n < g.a ∨ g.top < n) : g.termAt n = -1 := by
  unfold Lg.termAt
  have : ¬ n = g.a := by unfold Lg.top at h; omega
  rw [if_neg this, if_neg (by omega)]

/-- Where a part has a place: what is known of it. -/
theorem Lg.Good.part {g : Lg} (h : g.Good) {n : Int} {i : Nat} (hi : i < g.parts.length) (hp : g.parts[i].has n = true) :
    (i = 0 ∧ n = g.a) ∨ ∃ j, ∃ hj : j < g.rs.length, i = j + 1 ∧ g.a < n ∧ n ≤ g.top ∧ g.rs[j].1 ≤ n ∧ n ≤ g.rs[j].1 + g.rs[j].2.length - 1 ∧ g.rs[j].1 = g.a + 1 + (allOf (g.rs.take j)).length ∧
      g.ents[(n - g.a - 1).toNat]? = g.rs[j].2[(n - g.rs[j].1).toNat]? := by
  cases i with
  | zero => rw [g.parts_zero] at hp; simp [Part.has] at hp; exact .inl ⟨rfl, hp⟩
  | succ j =>
    have hj : j < g.rs.length := by simpa [Lg.parts] using hi
    rw [g.parts_succ j hj] at hp
    simp [Part.has] at hp
    obtain ⟨a1, a2, _⟩ := h.chain.at j hj
    have hl := len_le_at g.rs j hj
    refine .inr ⟨j, hj, rfl, by omega, by unfold Lg.top Lg.ents; omega, hp.1, hp.2, a1, ?_⟩
    unfold Lg.ents
    rw [take_at g.rs j hj, List.getElem?_append_right (by omega), List.getElem?_append_left (by omega)]
    congr 1
    omega
theorem Lg.Good.termAt_ground {g : Lg} : g.termAt g.a = g.t := by simp [Lg.termAt]
theorem Lg.Good.termAt_run {g : Lg} (h : g.Good) {n : Int} {j : Nat} (hj : j < g.rs.length) (h1 : g.a < n) (h2 : n ≤ g.top) (h3 : g.rs[j].1 ≤ n) (h4 : n ≤ g.rs[j].1 + g.rs[j].2.length - 1)
    (he : g.ents[(n - g.a - 1).toNat]? = g.rs[j].2[(n - g.rs[j].1).toNat]?) : g.termAt n = headTerm g.rs[j].2 := by
  unfold Lg.termAt
  rw [if_neg (by omega), if_pos ⟨h1, h2⟩, he, List.getElem?_eq_getElem (by omega)]
  simp only [Option.map_some, Option.getD_some]
  exact ((h.chain.at j hj).2.2.1 _ (List.getElem_mem _)).1
theorem head_term {l : List Ent} (h : 0 < l.length) : headTerm l = l[0].term := by
  cases l with
  | nil => simp at h
  | cons x xs => rfl
/-- The last part: the floor alone, or a run that ends at the top. -/
theorem Lg.Good.last {g : Lg} (h : g.Good) :
    (g.rs = [] ∧ g.parts[g.parts.length - 1]'(by simp [Lg.parts]) = .ground g.a g.t g.m ∧ g.top = g.a ∧ g.termAt g.top = g.t) ∨
    ∃ f l, g.parts[g.parts.length - 1]'(by simp [Lg.parts]) = .run f l ∧ (Part.run f l).ok ∧ g.top = f + l.length - 1 ∧ g.termAt g.top = headTerm l ∧ g.a < g.top ∧
      g.rs = g.rs.take (g.rs.length - 1) ++ [(f, l)] := by
  rcases Nat.eq_zero_or_pos g.rs.length with h0 | h0
  · have hr : g.rs = [] := List.eq_nil_of_length_eq_zero h0
    have ht : g.top = g.a := by simp [Lg.top, Lg.ents, hr, allOf]
    exact .inl ⟨hr, by simp [Lg.parts, hr], ht, by rw [ht]; exact Lg.Good.termAt_ground⟩
  · have hj : g.rs.length - 1 < g.rs.length := by omega
    have hp : g.parts[g.parts.length - 1]'(by simp [Lg.parts]) = .run g.rs[g.rs.length - 1].1 g.rs[g.rs.length - 1].2 := by
      rw [← g.parts_succ _ hj]; congr 1; simp [Lg.parts]; omega
    obtain ⟨a1, a2, a3, a4⟩ := h.chain.at _ hj
    have hall := take_at g.rs _ hj
    have hd : g.rs.drop (g.rs.length - 1 + 1) = [] := by simp; omega
    rw [hd] at hall
    have hlen : (allOf g.rs).length = (allOf (g.rs.take (g.rs.length - 1))).length + g.rs[g.rs.length - 1].2.length := by rw [hall]; simp [allOf]
    have ht : g.top = g.rs[g.rs.length - 1].1 + g.rs[g.rs.length - 1].2.length - 1 := by unfold Lg.top Lg.ents; omega
    have hl := List.length_pos_iff.2 a2
    have hat : g.a < g.top := by unfold Lg.top Lg.ents; omega
    refine .inr ⟨_, _, hp, h.run_ok _ hj, ht, ?_, hat, ?_⟩
    · refine h.termAt_run hj hat (Int.le_refl _) (by omega) (by omega) ?_
      have hi : (g.top - g.a - 1).toNat = g.ents.length - 1 := by unfold Lg.top; omega
      rw [hi, show (g.top - g.rs[g.rs.length - 1].1).toNat = g.rs[g.rs.length - 1].2.length - 1 by omega]
      unfold Lg.ents
      rw [hlen, hall, List.getElem?_append_right (by omega), List.getElem?_append_left (by omega)]
      congr 1
      omega
    · conv => lhs; rw [← List.take_append_drop (g.rs.length - 1) g.rs]
      congr 1
      rw [List.drop_eq_getElem_cons hj, hd]
end Go.Proofs.YtahagecdebadfaaGreat

namespace Go.Proofs.YtahagecdebadfaaGreat
open Go.RowKit

/-- No part ahead of the k-th has the place n. -/
def NoneHas (ps : List Part) (n : Int) (k : Nat) : Prop := ∀ j (h : j < ps.length), j < k → ps[j].has n = false
theorem NoneHas.zero (ps : List Part) (n : Int) : NoneHas ps n 0 := fun _ _ h => by omega
theorem NoneHas.succ {ps : List Part} {n : Int} {k : Nat} (h : NoneHas ps n k) (hk : k < ps.length) (h' : ps[k].has n = false) : NoneHas ps n (k + 1) := fun j hj hj' => by
  by_cases e : j = k
  · subst e; exact h'
  · exact h j hj (by omega)
/-- What 'find' answers. -/
def FindPost (S : Nat → Prop) (w : World) (ps : List Part) (n : Int) (e : Ending) : Prop :=
  (∃ (i : Nat) (h : i < ps.length) (v : Value), ps[i].has n = true ∧ NoneHas ps n i ∧ PartV S w v ps[i] ∧ e = .returned (.tuple #[v, .int .i64 i])) ∨
  (NoneHas ps n ps.length ∧ e = .returned (.tuple #[.nilIface, .int .i64 0]))

set_option maxRecDepth 100000 in
set_option maxHeartbeats 1000000 in
theorem find_any {S : Nat → Prop} (p : Value) (ps : List Part) (n : Int) (w : World) (h : LogAt S w p ps) (hok : ∀ q ∈ ps, q.ok) (hlen : ps.length ≤ 4097) :
    Calls Tryz.prog 124 #[p, .int .i64 n] w fun e w' => FindPost S w ps n e ∧ Below w.heap.size w w' := by
  obtain ⟨b, sv, vs, rfl, hSb, hcell, hrow, hpc⟩ := h
  clear hSb
  have hl0 := hpc.length
  rcases hrow.2 with ⟨h0, h1⟩ | ⟨pb, po, pc, rfl, hn, hc, hSp, hlt, hcells⟩
  · obtain rfl : ps = [] := List.eq_nil_of_length_eq_zero h0
    obtain ⟨A, c, rfl⟩ : ∃ A c, sv = .slice A 0 c := by
      rcases h1 with rfl | ⟨a, c, rfl⟩
      · exact ⟨_, _, rfl⟩
      · exact ⟨_, _, rfl⟩
    clear hrow hpc hl0 hok h0 h1
    go_enter Tryz.func124, Tryz.ntmps124
    go_wp2_with fail
    refine wp_loop_rounds 1 ?_
    rw [rounds_succ]
    go_wp2_with fail
    go_ret2
    exact ⟨.inr ⟨fun j hj => by simp at hj, rfl⟩, Below.refl _ _⟩
  · clear hSp
    unfold maxLen at hc
    have HC := Lib.hid hcells
    have HP := Lib.hid hpc
    have HR := Lib.hid hrow
    have HL := Lib.hid hl0
    have HOK := Lib.hid hok
    clear hcells hpc hrow hl0 hok
    go_enter Tryz.func124, Tryz.ntmps124
    go_wp2_with fail
    go_loopw [6, 7, 8, 9, 10, 11, 19] (fun _ _ _ _ _ _ i wr => ∃ k : Nat, k ≤ ps.length ∧ i = .int .i64 k ∧ Below w.heap.size w wr ∧ NoneHas ps n k) (fun _ _ _ _ _ _ i _ => ps.length - (intOf i).toNat)
    case atStart => exact ⟨0, Nat.zero_le _, rfl, Below.refl _ _, NoneHas.zero _ _⟩
    case round =>
      obtain ⟨k, hk, rfl, hb, hno⟩ := hrel
      have Hno := Lib.hid hno
      clear hno
      by_cases hlt' : k < ps.length
      · obtain ⟨v, hv, hpv⟩ := HP.out.at k hlt'
        have hcv := cell_keep hb (HC.out k v hv)
        have hok := HOK.out _ (List.getElem_mem hlt')
        have HPV := Lib.hid hpv
        cases hq : ps[k] with
        | ground a t m =>
          rw [hq] at hpv hok
          obtain rfl := hpv
          have Hq := Lib.hid hq
          have Hok := Lib.hid hok
          have Hv := Lib.hid hv
          clear hv hq hok
          go_wp2_with (go_at_call 168; refine (last_ground a t m _).mono ?_; rintro e w1 ⟨rfl, hb1⟩)
          · have he : (n == a) = true := by assumption
            go_ret2
            exact ⟨.inl ⟨k, hlt', _, by rw [Hq.out]; simpa [Part.has] using he, Hno.out, HPV.out, rfl⟩, hb.trans ((hb1.alloc hb1.size _).mono hb.size)⟩
          · have he : (n == a) = false := by assumption
            go_roundw
            case rel => exact ⟨k + 1, by omega, by go_num, hb.trans ((hb1.alloc hb1.size _).mono hb.size), Hno.out.succ hlt' (by rw [Hq.out]; simpa [Part.has] using he)⟩
            case measure => simp [intOf]; omega
        | run f l =>
          rw [hq] at hpv hok
          obtain ⟨sv, rfl, cs, hrl, hec⟩ := hpv
          obtain ⟨ho1, ho2, ho3, ho4⟩ := hok
          obtain ⟨rb, ro, rc, rfl, _, hrc, _, _, hrcell⟩ := hrl.form ho3
          obtain ⟨cv, hc0, hc1, hc2, _⟩ := hec.at 0 ho3
          have hterm := cell_keep hb (hrcell _ _ hc1)
          have Hq := Lib.hid hq
          have Hv := Lib.hid hv
          clear hv hq hc0 hc1 hc2 hrcell hec hrl
          simp only [Nat.zero_mul, Nat.zero_add] at hterm
          go_wp2_with (go_at_call 169; refine (last_run f _ rb ro l.length rc _ hterm ho3 ho4 ho1 ho2).mono ?_; rintro e w1 ⟨rfl, hb1⟩)
          · have he1 : f ≤ n := by assumption
            have he2 : n ≤ f + l.length - 1 := by assumption
            go_ret2
            exact ⟨.inl ⟨k, hlt', _, by rw [Hq.out]; simp [Part.has, he1, he2], Hno.out, HPV.out, rfl⟩, hb.trans ((hb1.alloc hb1.size _).mono hb.size)⟩
          · have he2 : f + l.length - 1 < n := by assumption
            go_roundw
            case rel => exact ⟨k + 1, by omega, by go_num, hb.trans ((hb1.alloc hb1.size _).mono hb.size), Hno.out.succ hlt' (by rw [Hq.out]; simp [Part.has]; omega)⟩
            case measure => simp [intOf]; omega
          · have he2 : ¬ f ≤ n := by assumption
            go_roundw
            case rel => exact ⟨k + 1, by omega, by go_num, hb.trans ((hb1.alloc hb1.size _).mono hb.size), Hno.out.succ hlt' (by rw [Hq.out]; simp [Part.has]; omega)⟩
            case measure => simp [intOf]; omega
      · obtain rfl : k = ps.length := by omega
        go_wp2_with fail
        go_ret2
        exact ⟨.inr ⟨Hno.out, rfl⟩, hb⟩

/-- Of a good log. -/
theorem find_lg {S : Nat → Prop} (p : Value) (g : Lg) (n : Int) (w : World) (h : LogAt S w p g.parts) (hg : g.Good) :
    Calls Tryz.prog 124 #[p, .int .i64 n] w fun e w' => FindPost S w g.parts n e ∧ Below w.heap.size w w' :=
  find_any p g.parts n w h hg.ok hg.parts_le

theorem eql_nil_part (T : TypeId) (v : Value) (w : World) : (binOp .eql 128 (.iface T v) .nilIface).run Tryz.prog w = .ok (.bool false) w := by kernel_rfl
theorem neq_nil_part (T : TypeId) (v : Value) (w : World) : (binOp .neq 128 (.iface T v) .nilIface).run Tryz.prog w = .ok (.bool true) w := by kernel_rfl
theorem eql_nil_nil (w : World) : (binOp .eql 128 .nilIface .nilIface).run Tryz.prog w = .ok (.bool true) w := by kernel_rfl
theorem neq_nil_nil (w : World) : (binOp .neq 128 .nilIface .nilIface).run Tryz.prog w = .ok (.bool false) w := by kernel_rfl
attribute [go_sem] eql_nil_part neq_nil_part eql_nil_nil neq_nil_nil

set_option maxHeartbeats 1000000 in
theorem term_any {S : Nat → Prop} (p : Value) (g : Lg) (n : Int) (w : World) (h : LogAt S w p g.parts) (hg : g.Good) :
    Calls Tryz.prog 77 #[p, .int .i64 n] w fun e w' => e = .returned (.int .i64 (g.termAt n)) ∧ Below w.heap.size w w' := by
  have Hf := Lib.hid (find_lg p g n w h hg)
  go_enter Tryz.func77, Tryz.ntmps77
  go_wp2_with fail
  refine Hf.out.mono ?_
  rintro e w1 ⟨hp, hb⟩
  rcases hp with ⟨i, hi, v, hh, hno, hv, rfl⟩ | ⟨hno, rfl⟩
  · rcases hg.part hi hh with ⟨rfl, rfl⟩ | ⟨j, hj, rfl, h1, h2, h3, h4, -, he⟩
    · rw [g.parts_zero] at hv
      obtain rfl := hv
      clear hno
      go_wp2_with (go_at_call 168; refine (last_ground g.a g.t g.m _).mono ?_; rintro e w2 ⟨rfl, hb2⟩)
      go_ret
      exact ⟨by rw [Lg.Good.termAt_ground]; rfl, below_then hb hb2⟩
    · rw [g.parts_succ j hj] at hv
      have HT := Lib.hid (hg.termAt_run hj h1 h2 h3 h4 he)
      obtain ⟨k1, k2, k3, k4⟩ := hg.run_ok j hj
      clear h3 h4 he hh
      obtain ⟨sv, rfl, cs, hrl, hec⟩ := hv
      obtain ⟨rb, ro, rc, rfl, _, hrc, _, _, hrcell⟩ := hrl.form k3
      obtain ⟨cv, hc0, hc1, hc2, _⟩ := hec.at 0 k3
      have hterm := cell_keep hb (hrcell _ _ hc1)
      simp only [Nat.zero_mul, Nat.zero_add] at hterm
      clear hno hc0 hc1 hc2 hrcell hec hrl
      go_wp2_with (go_at_call 169; refine (last_run _ _ rb ro _ rc _ hterm k3 k4 k1 k2).mono ?_; rintro e w2 ⟨rfl, hb2⟩)
      go_ret
      refine ⟨?_, below_then hb hb2⟩
      rw [HT.out, head_term k3]
      rfl
  · have HT := Lib.hid (Lg.termAt_none (hg.noPart fun j hj => hno j hj hj))
    clear hno
    go_wp2_with fail
    go_ret
    exact ⟨by rw [HT.out]; rfl, hb⟩
end Go.Proofs.YtahagecdebadfaaGreat

namespace Go.Proofs.YtahagecdebadfaaGreat
open Go.RowKit
attribute [local go_sem ↓] Go.wp_at_zero Go.wp_at_succ

theorem field_ground0 (a t m : Int) (w : World) : (Instr.field 122 (.agg #[.int .i64 a, .int .i64 t, .int .i64 m]) 0).run Tryz.prog w = .ok (.int .i64 a) w := by kernel_rfl
theorem field_ground2 (a t m : Int) (w : World) : (Instr.field 122 (.agg #[.int .i64 a, .int .i64 t, .int .i64 m]) 2).run Tryz.prog w = .ok (.int .i64 m) w := by kernel_rfl
attribute [go_sem] field_ground0 field_ground2

set_option maxHeartbeats 1000000 in
theorem ground_any {S : Nat → Prop} (p : Value) (g : Lg) (w : World) (h : LogAt S w p g.parts) :
    Calls Tryz.prog 91 #[p] w fun e w' => e = .returned (.agg #[.int .i64 g.a, .int .i64 g.t, .int .i64 g.m]) ∧ Below w.heap.size w w' := by
  obtain ⟨b, sv, vs, rfl, -, hcell, hrow, hpc⟩ := h
  obtain ⟨pb, po, pc, rfl, hn, hc, -, hlt, hcells⟩ := hrow.form (by simp [Lg.parts])
  obtain ⟨v, hv, hpv⟩ := hpc.at 0 (by simp [Lg.parts])
  have hcv := hcells 0 v hv
  rw [g.parts_zero] at hpv
  obtain rfl := hpv
  rw [Nat.add_zero] at hcv
  have h1 : (0 : Int) < (g.parts.length : Int) := by simp [Lg.parts]
  have hb := block_lt hcell
  clear hcells hpc hrow hv hn hc
  go_enter Tryz.func91, Tryz.ntmps91
  go_wp2_with fail
  refine bodyPost_ret (v := .agg #[.int .i64 g.a, .int .i64 g.t, .int .i64 g.m]) (by simp [results, Tryz.results91, go_sem]) rfl ⟨rfl, ?_⟩
  exact (box_below _ _).alloc (by simp) _

set_option maxHeartbeats 1000000 in
theorem top_run {S : Nat → Prop} (p : Value) (g : Lg) (w : World) (h : LogAt S w p g.parts) (hg : g.Good) :
    Calls Tryz.prog 34 #[p] w fun e w' => e = .returned (.tuple #[.int .i64 g.top, .int .i64 (g.termAt g.top)]) ∧ Below w.heap.size w w' := by
  obtain ⟨b, sv, vs, rfl, -, hcell, hrow, hpc⟩ := h
  obtain ⟨pb, po, pc, rfl, hn, hc, -, hlt, hcells⟩ := hrow.form (by simp [Lg.parts])
  obtain ⟨v, hv, hpv⟩ := hpc.at (g.parts.length - 1) (by simp [Lg.parts])
  have hcv := hcells _ v hv
  have hlen := g.parts_length
  have hle := hg.parts_le
  have hp0 : 0 < g.parts.length := by omega
  have hb := block_lt hcell
  have hl := hg.last
  clear hlen hcells hpc hrow hv hn hc
  rcases hl with ⟨-, hpe, ht, htt⟩ | ⟨f, l, hpe, hok, ht, htt, -, -⟩
  · rw [hpe] at hpv
    obtain rfl := hpv
    have HT := Lib.hid ht
    have HTT := Lib.hid htt
    clear hpe ht htt
    generalize g.parts.length = n at *
    have e1 : IntKind.i64.wrap ((n : Int) - 1) = (n : Int) - 1 := IntWalk.i64_in _ (by omega)
    have e2 : (0 : Int) ≤ (n : Int) - 1 := by omega
    have e3 : (n : Int) - 1 < (n : Int) := by omega
    have e5 : (1 : Int) ≤ (n : Int) := by omega
    have e4 : ((n : Int) - 1).toNat = n - 1 := by omega
    go_enter Tryz.func34, Tryz.ntmps34
    go_wp2_with fail
    go_region_held3 (fun w' => w'.cell? ⟨b, 0, none⟩ = some (.slice (some ⟨pb, po, none⟩) n pc) ∧ w'.cell? ⟨pb, po + (n - 1), none⟩ = some (.iface 122 (.agg #[.int .i64 g.a, .int .i64 g.t, .int .i64 g.m]))) (go_keep) (first | (go_at_call 168; refine (last_ground g.a g.t g.m _).mono ?_; rintro e w2 ⟨rfl, hb2⟩; have c1 := cell_keep hb2 hcell; have c2 := cell_keep hb2 hcv))
    all_goals go_wp2_with fail
    all_goals go_ret2
    all_goals exact ⟨by rw [HTT.out, HT.out]; rfl, below_of_drew hb2⟩
  · rw [hpe] at hpv
    obtain ⟨k1, k2, k3, k4⟩ := hok
    obtain ⟨sv, rfl, cs, hrl, hec⟩ := hpv
    obtain ⟨rb, ro, rc, rfl, -, hrc, -, -, hrcell⟩ := hrl.form k3
    obtain ⟨cv, hc0, hc1, hc2, -⟩ := hec.at 0 k3
    have hterm := hrcell _ _ hc1
    simp only [Nat.zero_mul, Nat.zero_add] at hterm
    have HT := Lib.hid ht
    have HTT := Lib.hid htt
    clear hpe ht htt hc0 hc1 hc2 hrcell hec hrl
    generalize g.parts.length = n at *
    have e1 : IntKind.i64.wrap ((n : Int) - 1) = (n : Int) - 1 := IntWalk.i64_in _ (by omega)
    have e2 : (0 : Int) ≤ (n : Int) - 1 := by omega
    have e3 : (n : Int) - 1 < (n : Int) := by omega
    have e5 : (1 : Int) ≤ (n : Int) := by omega
    have e4 : ((n : Int) - 1).toNat = n - 1 := by omega
    go_enter Tryz.func34, Tryz.ntmps34
    go_wp2_with fail
    go_region_held3 (fun w' => w'.cell? ⟨b, 0, none⟩ = some (.slice (some ⟨pb, po, none⟩) n pc) ∧ w'.cell? ⟨pb, po + (n - 1), none⟩ = some (.iface 131 (.agg #[.int .i64 f, .slice (some ⟨rb, ro, none⟩) l.length rc]))) (go_keep) (first | (go_at_call 169; refine (last_run f _ rb ro l.length rc _ (by exact hterm) k3 k4 k1 k2).mono ?_; rintro e w2 ⟨rfl, hb2⟩; have c1 := cell_keep hb2 hcell; have c2 := cell_keep hb2 hcv))
    all_goals go_wp2_with fail
    all_goals go_ret2
    all_goals exact ⟨by rw [HTT.out, HT.out, head_term k3]; rfl, below_of_drew hb2⟩

set_option maxHeartbeats 1000000 in
theorem floor_any {S : Nat → Prop} (p : Value) (g : Lg) (w : World) (h : LogAt S w p g.parts) :
    Calls Tryz.prog 33 #[p] w fun e w' => e = .returned (.tuple #[.int .i64 g.a, .int .i64 g.t, .int .i64 g.m]) ∧ Below w.heap.size w w' := by
  have Hg := Lib.hid (ground_any p g w h)
  obtain ⟨b, sv, vs, rfl, -, -⟩ := h
  go_enter Tryz.func33, Tryz.ntmps33
  go_wp2_with (go_at_call 91; refine Hg.out.mono ?_; rintro e w2 ⟨rfl, hb2⟩)
  go_quiet (fail)
  go_wp2_with fail
  go_ret3
  exact ⟨rfl, below_drewN (hb2.alloc hb2.size _) _⟩

set_option maxHeartbeats 1000000 in
theorem count_any {S : Nat → Prop} (p : Value) (g : Lg) (w : World) (h : LogAt S w p g.parts) (hg : g.Good) :
    Calls Tryz.prog 84 #[p] w fun e w' => e = .returned (.int .i64 g.ents.length) ∧ Below w.heap.size w w' := by
  have Hf := Lib.hid (floor_any p g w h)
  have Ht := Lib.hid fun w' (hb : Below w.heap.size w w') => top_run p g w' (h.keep hb) hg
  have b1 := hg.a0
  have b2 := hg.a1
  have b3 := hg.len
  have b4 : g.top - g.a = g.ents.length := by unfold Lg.top; omega
  have b5 : g.top ≤ 1099511631872 := by omega
  have b6 : 0 ≤ g.top := by omega
  have H4 := Lib.hid b4
  clear b4 h hg
  go_enter Tryz.func84, Tryz.ntmps84
  go_wp2_with (first | (go_at_call 33; refine Hf.out.mono ?_; rintro e w2 ⟨rfl, hb2⟩) | (go_at_call 34; refine (Ht.out _ (by assumption)).mono ?_; rintro e w3 ⟨rfl, hb3⟩))
  go_ret
  exact ⟨by rw [← H4.out]; rfl, below_then hb2 hb3⟩

set_option maxHeartbeats 1000000 in
theorem top_nil (w : World) : Calls Tryz.prog 34 #[.pointer none] w fun e w' => e = .returned (.tuple #[.int .i64 0, .int .i64 0]) ∧ w = w' := by
  go_enter Tryz.func34, Tryz.ntmps34
  go_wp2_with fail
  go_ret2
  exact ⟨rfl, rfl⟩
set_option maxHeartbeats 1000000 in
theorem floor_nil (w : World) : Calls Tryz.prog 33 #[.pointer none] w fun e w' => e = .returned (.tuple #[.int .i64 0, .int .i64 0, .int .i64 0]) ∧ w = w' := by
  go_enter Tryz.func33, Tryz.ntmps33
  go_wp2_with fail
  go_ret3
  exact ⟨rfl, rfl⟩

end Go.Proofs.YtahagecdebadfaaGreat

namespace Go.Proofs.YtahagecdebadfaaGreat
open Go.RowKit
attribute [local go_sem ↓] Go.wp_at_zero Go.wp_at_succ

theorem RowAt.of_blk {S : Nat → Prop} {w : World} {b n sz : Nat} {cs : List Value} {t : TypeId} (h : w.heap[b]? = some (.cells cs.toArray t (0, 0))) (hS : S b) (hl : cs.length = n * sz) (hn : n ≤ maxLen) :
    RowAt S w (.slice (some ⟨b, 0, none⟩) n n) n sz cs :=
  ⟨hl, .inr ⟨b, 0, n, rfl, Nat.le_refl _, hn, hS, (Array.getElem?_eq_some_iff.1 h).1, fun i u hu => by rw [cell_of_row w b (0 + i) _ t (0, 0) h]; simpa using hu⟩⟩

def newB (a t m : Int) : Bool := mayB a && mayB t && maskB m && !(decide (a = 0) && !decide (t = 0))

set_option maxHeartbeats 1000000 in
theorem new_no (a t m : Int) (w : World) (h : newB a t m = false) :
    Calls Tryz.prog 28 #[.int .i64 a, .int .i64 t, .int .i64 m] w fun e w' => e = .returned (.tuple #[.pointer none, .int .i64 1]) ∧ w = w' := by
  cases h1 : mayB a
  · go_enter Tryz.func28, Tryz.ntmps28
    go_wp2_with (first | (go_at_call 81; refine (may_any _ _).mono ?_; rintro e w' ⟨rfl, rfl⟩) | (go_at_call 82; refine (mask_any _ _).mono ?_; rintro e w' ⟨rfl, rfl⟩))
    go_ret2
    exact ⟨rfl, rfl⟩
  cases h2 : mayB t
  · go_enter Tryz.func28, Tryz.ntmps28
    go_wp2_with (first | (go_at_call 81; refine (may_any _ _).mono ?_; rintro e w' ⟨rfl, rfl⟩) | (go_at_call 82; refine (mask_any _ _).mono ?_; rintro e w' ⟨rfl, rfl⟩))
    go_ret2
    exact ⟨rfl, rfl⟩
  cases h3 : maskB m
  · go_enter Tryz.func28, Tryz.ntmps28
    go_wp2_with (first | (go_at_call 81; refine (may_any _ _).mono ?_; rintro e w' ⟨rfl, rfl⟩) | (go_at_call 82; refine (mask_any _ _).mono ?_; rintro e w' ⟨rfl, rfl⟩))
    go_ret2
    exact ⟨rfl, rfl⟩
  have h4 : a = 0 ∧ t ≠ 0 := by simp [newB, h1, h2, h3] at h; exact h
  obtain ⟨rfl, ht⟩ := h4
  have ht1 : (t == 0) = false := beq_eq_false_iff_ne.2 ht
  have ht2 : (t != 0) = true := by rw [bne_iff_ne]; exact ht
  clear h ht
  go_enter Tryz.func28, Tryz.ntmps28
  go_wp2_with (first | (go_at_call 81; refine (may_any _ _).mono ?_; rintro e w' ⟨rfl, rfl⟩) | (go_at_call 82; refine (mask_any _ _).mono ?_; rintro e w' ⟨rfl, rfl⟩))
  go_ret2
  exact ⟨rfl, rfl⟩

theorem new_log (a t m : Int) (w : World) :
    LogAt (w.heap.size ≤ ·) ((w.alloc (.cells #[.iface 122 (.agg #[.int .i64 a, .int .i64 t, .int .i64 m])] 128)).alloc (.cells #[.slice (some ⟨w.heap.size, 0, none⟩) 1 1] 125)) (.pointer (some ⟨w.heap.size + 1, 0, none⟩)) (Lg.mk a t m []).parts := by
  have h1 := blk_new (w.alloc (.cells #[.iface 122 (.agg #[.int .i64 a, .int .i64 t, .int .i64 m])] 128)) (.cells #[.slice (some ⟨w.heap.size, 0, none⟩) 1 1] 125)
  have h2 := blk_alloc (blk_new w (.cells #[.iface 122 (.agg #[.int .i64 a, .int .i64 t, .int .i64 m])] 128)) (.cells #[.slice (some ⟨w.heap.size, 0, none⟩) 1 1] 125)
  rw [World.size_alloc] at h1
  exact ⟨_, _, [_], rfl, Nat.le_succ _, (cells1 h1).1, RowAt.of_blk (cs := [_]) h2 (Nat.le_refl _) rfl (by simp [maxLen]), ⟨_, [], rfl, rfl, rfl⟩⟩
theorem below_two (w : World) (o o' : Obj) : Below w.heap.size w ((w.alloc o).alloc o') := (box_below _ _).alloc (by simp) _

set_option maxHeartbeats 1000000 in
theorem new_yes (a t m : Int) (w : World) (h : newB a t m = true) :
    Calls Tryz.prog 28 #[.int .i64 a, .int .i64 t, .int .i64 m] w fun e w' => ∃ p, e = .returned (.tuple #[p, .int .i64 0]) ∧ LogAt (w.heap.size ≤ ·) w' p (Lg.mk a t m []).parts ∧ Below w.heap.size w w' := by
  simp [newB] at h
  obtain ⟨⟨⟨h1, h2⟩, h3⟩, h4⟩ := h
  have H4 := Lib.hid h4
  clear h4
  by_cases ha : a = 0
  · have ht : t = 0 := H4.out.resolve_left (fun hn => hn ha)
    subst ha ht
    go_enter Tryz.func28, Tryz.ntmps28
    go_wp2_with (first | (go_at_call 81; refine (may_any _ _).mono ?_; rintro e w' ⟨rfl, rfl⟩) | (go_at_call 82; refine (mask_any _ _).mono ?_; rintro e w' ⟨rfl, rfl⟩))
    go_ret2
    exact ⟨_, rfl, new_log _ _ _ _, below_two _ _ _⟩
  · have ha1 : (a == 0) = false := beq_eq_false_iff_ne.2 ha
    clear ha
    go_enter Tryz.func28, Tryz.ntmps28
    go_wp2_with (first | (go_at_call 81; refine (may_any _ _).mono ?_; rintro e w' ⟨rfl, rfl⟩) | (go_at_call 82; refine (mask_any _ _).mono ?_; rintro e w' ⟨rfl, rfl⟩))
    go_ret2
    exact ⟨_, rfl, new_log _ _ _ _, below_two _ _ _⟩

/-- Where the run that has a place begins. -/
def runStart (n : Int) : List (Int × List Ent) → Option Int
  | [] => none
  | r :: rs => if (Part.run r.1 r.2).has n then some r.1 else runStart n rs
theorem runStart_none {n : Int} : ∀ {rs : List (Int × List Ent)}, (∀ j (h : j < rs.length), (Part.run rs[j].1 rs[j].2).has n = false) → runStart n rs = none
  | [], _ => rfl
  | r :: rs, h => by
    have h0 := h 0 (by simp)
    simp only [List.getElem_cons_zero] at h0
    simp only [runStart, h0]
    exact runStart_none fun j hj => h (j + 1) (by simpa using hj)
theorem runStart_some {n : Int} : ∀ {rs : List (Int × List Ent)} (i : Nat) (hi : i < rs.length), (∀ j (h : j < rs.length), j < i → (Part.run rs[j].1 rs[j].2).has n = false) → (Part.run rs[i].1 rs[i].2).has n = true → runStart n rs = some rs[i].1
  | [], i, hi, _, _ => by simp at hi
  | r :: rs, 0, _, _, h => by simp only [List.getElem_cons_zero] at h; simp [runStart, h]
  | r :: rs, i + 1, hi, hno, h => by
    have h0 := hno 0 (by simp) (by omega)
    simp only [List.getElem_cons_zero] at h0
    simp only [runStart, h0, List.getElem_cons_succ]
    exact runStart_some i (by simpa using hi) (fun j hj hj' => hno (j + 1) (by simpa using hj) (by omega)) (by simpa using h)
/-- Where to go back to. -/
def Lg.back (g : Lg) (n : Int) : Int :=
  if g.top < n then g.top else match runStart n g.rs with
    | some f => f - 1
    | none => g.a

set_option maxHeartbeats 1000000 in
theorem back_any {S : Nat → Prop} (p : Value) (g : Lg) (n : Int) (w : World) (h : LogAt S w p g.parts) (hg : g.Good) :
    Calls Tryz.prog 140 #[p, .int .i64 n] w fun e w' => e = .returned (.int .i64 (g.back n)) ∧ Below w.heap.size w w' := by
  have Ht := Lib.hid (top_run p g w h hg)
  have Hf := Lib.hid fun w' (hb : Below w.heap.size w w') => find_lg p g n w' (h.keep hb) hg
  have Hg := Lib.hid fun w' (hb : Below w.heap.size w w') => ground_any p g w' (h.keep hb)
  by_cases hn : g.top < n
  · have Hb := Lib.hid (show g.back n = g.top by simp [Lg.back, hn])
    go_enter Tryz.func140, Tryz.ntmps140
    go_wp2_with (go_at_call 34; refine Ht.out.mono ?_; rintro e w1 ⟨rfl, hb1⟩)
    go_ret
    exact ⟨by rw [Hb.out]; rfl, hb1⟩
  · go_enter Tryz.func140, Tryz.ntmps140
    go_wp2_with (go_at_call 34; refine Ht.out.mono ?_; rintro e w1 ⟨rfl, hb1⟩)
    refine (Hf.out _ hb1).mono ?_
    rintro e w2 ⟨hp, hb2⟩
    rcases hp with ⟨i, hi, v, hh, hno, hv, rfl⟩ | ⟨hno, rfl⟩
    · rcases hg.part hi hh with ⟨rfl, hna⟩ | ⟨j, hj, rfl, h1, h2, h3, h4, -, he⟩
      · have hs : runStart n g.rs = none := runStart_none fun j hj => by
            obtain ⟨a1, -⟩ := hg.chain.at j hj
            simp [Part.has]; omega
        have Hb := Lib.hid (show g.back n = g.a by simp [Lg.back, hs]; omega)
        clear hs
        rw [g.parts_zero] at hv
        obtain rfl := hv
        clear hno hna
        go_wp2_with (go_at_call 91; refine (Hg.out _ (below_alloc (below_then hb1 hb2) _)).mono ?_; rintro e w3 ⟨rfl, hb3⟩)
        go_ret
        exact ⟨by rw [Hb.out]; rfl, below_then (below_alloc (below_then hb1 hb2) _) hb3⟩
      · have hs : runStart n g.rs = some g.rs[j].1 := runStart_some j hj (fun k hk hkj => hno (k + 1) (by simp [Lg.parts]; omega) (by omega) |> (fun hx => by rwa [g.parts_succ k hk] at hx)) (by rwa [g.parts_succ j hj] at hh)
        have Hb := Lib.hid (show g.back n = g.rs[j].1 - 1 by simp [Lg.back, hs]; omega)
        clear hs
        rw [g.parts_succ j hj] at hv
        obtain ⟨k1, k2, k3, k4⟩ := hg.run_ok j hj
        obtain ⟨sv, rfl, he⟩ := hv
        obtain ⟨A, c, rfl⟩ := he.slice
        clear hno he
        go_wp2_with fail
        go_ret
        exact ⟨by rw [Hb.out]; rfl, below_alloc (below_then hb1 hb2) _⟩
    · have hs : runStart n g.rs = none := runStart_none fun j hj => by
          have := hno (j + 1) (by simp [Lg.parts]; omega) (by simp [Lg.parts]; omega)
          rwa [g.parts_succ j hj] at this
      have Hb := Lib.hid (show g.back n = g.a by simp [Lg.back, hs]; omega)
      clear hs
      clear hno
      go_wp2_with (go_at_call 91; refine (Hg.out _ (below_then hb1 hb2)).mono ?_; rintro e w3 ⟨rfl, hb3⟩)
      go_ret
      exact ⟨by rw [Hb.out]; rfl, below_then (below_then hb1 hb2) hb3⟩
end Go.Proofs.YtahagecdebadfaaGreat

namespace Go.Proofs.YtahagecdebadfaaGreat
open Go.RowKit
attribute [local go_sem ↓] Go.wp_at_zero Go.wp_at_succ

theorem upto_nil (n : Int) (w : World) : Calls Tryz.prog 141 #[.pointer none, .int .i64 n] w fun e w' => e = .returned (.tuple #[.pointer none, .int .i64 2]) ∧ w = w' := by
  go_enter Tryz.func141, Tryz.ntmps141
  go_wp2_with fail
  go_ret2
  exact ⟨rfl, rfl⟩

set_option maxRecDepth 100000 in
set_option maxHeartbeats 1000000 in
theorem upto_none {S : Nat → Prop} (p : Value) (g : Lg) (n : Int) (w : World) (h : LogAt S w p g.parts) (hg : g.Good) (hn : n < g.a ∨ g.top < n) :
    Calls Tryz.prog 141 #[p, .int .i64 n] w fun e w' => e = .returned (.tuple #[.pointer none, .int .i64 1]) ∧ Below w.heap.size w w' := by
  have Hf := Lib.hid (find_lg p g n w h hg)
  obtain ⟨b, sv, vs, rfl, -, -⟩ := h
  go_enter Tryz.func141, Tryz.ntmps141
  go_wp2_with fail
  refine Hf.out.mono ?_
  rintro e w1 ⟨hp, hb⟩
  rcases hp with ⟨i, hi, v, hh, -, -, rfl⟩ | ⟨-, rfl⟩
  · exfalso
    rcases hg.part hi hh with ⟨rfl, rfl⟩ | ⟨j, hj, rfl, h1, h2, -⟩
    · unfold Lg.top at hn; omega
    · omega
  · go_wp2_with fail
    go_ret2
    exact ⟨rfl, hb⟩

set_option maxRecDepth 100000 in
set_option maxHeartbeats 1000000 in
theorem upto_floor {S : Nat → Prop} (p : Value) (g : Lg) (w : World) (h : LogAt S w p g.parts) (hg : g.Good) :
    Calls Tryz.prog 141 #[p, .int .i64 g.a] w fun e w' => ∃ q, e = .returned (.tuple #[q, .int .i64 0]) ∧ LogAt (w.heap.size ≤ ·) w' q (Lg.mk g.a g.t g.m []).parts ∧ Below w.heap.size w w' := by
  have Hf := Lib.hid (find_lg p g g.a w h hg)
  obtain ⟨b, sv, vs, rfl, -, hcell, hrow, hpc⟩ := h
  obtain ⟨pb, po, pc, rfl, hn, hc, -, hlt, hcells⟩ := hrow.form (by simp [Lg.parts])
  have hle := hg.parts_le
  have hp0 : 0 < g.parts.length := by simp [Lg.parts]
  go_enter Tryz.func141, Tryz.ntmps141
  go_wp2_with fail
  refine Hf.out.mono ?_
  rintro e w1 ⟨hp, hb⟩
  have hcell1 := cell_keep hb hcell
  rcases hp with ⟨i, hi, v, hh, -, hv, rfl⟩ | ⟨hno, rfl⟩
  · rcases hg.part hi hh with ⟨rfl, -⟩ | ⟨j, hj, rfl, h1, h2, -⟩
    · rw [g.parts_zero] at hv
      obtain rfl := hv
      have hpc1 := hpc.take 1
      have hl1 : (vs.take 1).length = 1 * 1 := by have := hpc.length; simp; omega
      have hk := fun i u (hu : (vs.take 1)[i]? = some u) => cell_keep hb (hcells i u (by rw [List.getElem?_take] at hu; split at hu <;> simp_all))
      have Hpc := Lib.hid hpc1
      have Hone := Lib.hid hpc1.one
      have Hk := Lib.hid hk
      have Hl := Lib.hid hl1
      have Hc := Lib.hid hc
      have hc1 : 1 ≤ pc := by omega
      unfold maxLen at hc
      have hn2 : (1 : Int) ≤ (pc : Int) := by omega
      clear hk hl1 hpc1 hcells hpc hrow hcell hh hi hn
      go_wp2_with fail
      refine (clone_parts w1 pb po 1 pc (vs.take 1) Hl.out hc1 Hc.out (by omega) Hone.out Hk.out).mono ?_
      rintro e w2 ⟨v, rfl, hown, hb2⟩
      obtain ⟨gb, cap, rfl, hgb, hgl⟩ := hown.form (by omega)
      have Hown := Lib.hid hown
      clear hown
      go_wp2_with fail
      go_ret2
      refine ⟨_, rfl, ?_, below_alloc (below_alloc (below_then hb hb2) _) _⟩
      have h1 := blk_new (w2.alloc (.cells #[.int .i64 0, .slice none 0 0] 131)) (.cells #[.slice (some ⟨gb, 0, none⟩) 1 cap] 125)
      rw [World.size_alloc] at h1
      refine ⟨_, _, vs.take 1, rfl, ?_, (cells1 h1).1, ?_, ?_⟩
      · have := hb2.size; have := hb.size; omega
      · exact ((RowAt.of_own Hown.out).mono (fun b _ h => Nat.le_trans hb.size h)).keep (below_two _ _ _)
      · obtain ⟨v, vs', h1, h2, h3⟩ := Hpc.out
        exact ⟨v, vs', h1, h2, h3⟩
    · omega
  · exfalso
    have := hno 0 (by simp [Lg.parts]) (by simp [Lg.parts])
    rw [g.parts_zero] at this
    simp [Part.has] at this

/-- Up to a place of the j-th run. -/
def Lg.cutAt (g : Lg) (j : Nat) (n : Int) : Lg := { g with rs := g.rs.take j ++ (match g.rs[j]? with | some r => [(r.1, r.2.take (n - r.1 + 1).toNat)] | none => []) }

theorem Lg.parts_take (g : Lg) (j : Nat) : g.parts.take (j + 1) = .ground g.a g.t g.m :: (g.rs.take j).map fun r => .run r.1 r.2 := by simp [Lg.parts]

theorem upto_log {S : Nat → Prop} {w w2 : World} {g : Lg} {j i m cap gb rb ro rc B : Nat} {f : Int} {l : List Ent} {cs vs : List Value} (hij : i = j + 1) (hm : i + 1 = m) (hlen : i ≤ (vs.take (i + 1)).length)
    (hpc : PartCells S w (g.parts.take (i + 1)) (vs.take (i + 1))) (hown : w2.ownsRow B 128 1 (.slice (some ⟨gb, 0, none⟩) (i + 1) cap) (i + 1) (vs.take (i + 1))) (hB : w.heap.size ≤ B) (hgb : B ≤ gb)
    (hrl : RowAt S w (.slice (some ⟨rb, ro, none⟩) l.length rc) l.length 3 cs) (hec : EntCells S w l cs) (hb : Below w.heap.size w w2) (k : Nat) (hk : k ≤ l.length) (X : Obj) :
    LogAt (fun b => S b ∨ w.heap.size ≤ b) ((((w2.setCell ⟨gb, i, none⟩ (.iface 131 (.agg #[.int .i64 f, .slice (some ⟨rb, ro, none⟩) k k]))).alloc X).alloc (.cells #[.slice (some ⟨gb, 0, none⟩) m cap] 125)).drew)
      (.pointer (some ⟨w2.heap.size + 1, 0, none⟩)) (Lg.mk g.a g.t g.m (g.rs.take j ++ [(f, l.take k)])).parts := by
  have hle := hrl.le
  have hbf : Below w.heap.size w ((((w2.setCell ⟨gb, i, none⟩ (.iface 131 (.agg #[.int .i64 f, .slice (some ⟨rb, ro, none⟩) k k]))).alloc X).alloc (.cells #[.slice (some ⟨gb, 0, none⟩) m cap] 125)).drew) :=
    (below_alloc (below_alloc (hb.setCell (p := ⟨gb, i, none⟩) (by simp; omega) _) _) _).drew
  have h1 := blk_new ((w2.setCell ⟨gb, i, none⟩ (.iface 131 (.agg #[.int .i64 f, .slice (some ⟨rb, ro, none⟩) k k]))).alloc X) (.cells #[.slice (some ⟨gb, 0, none⟩) m cap] 125)
  rw [World.size_alloc, size_setCell] at h1
  have hst := (hown.stored (g := gb) i (.iface 131 (.agg #[.int .i64 f, .slice (some ⟨rb, ro, none⟩) k k]))).1
  subst hm
  refine ⟨_, _, (vs.take (i + 1)).set i (.iface 131 (.agg #[.int .i64 f, .slice (some ⟨rb, ro, none⟩) k k])), rfl, .inr ?_, (cells1 h1).1, ?_, ?_⟩
  · have := hb.size; omega
  · have hl : (Lg.mk g.a g.t g.m (g.rs.take j ++ [(f, l.take k)])).parts.length = i + 1 := by
      have h1 := hpc.length
      have h2 := hown.1
      rw [Lg.parts_length]
      have h3 : (g.parts.take (i + 1)).length = i + 1 := by omega
      simp [Lg.parts] at h3
      simp; omega
    rw [hl]
    exact ((((RowAt.of_own hst).mono (T := fun b => S b ∨ w.heap.size ≤ b) (fun b _ h => .inr (Nat.le_trans hB h))).keep (below_two _ _ _)).keep ((Below.refl _ _).drew))
  · have hset : (vs.take (i + 1)).set i (.iface 131 (.agg #[.int .i64 f, .slice (some ⟨rb, ro, none⟩) k k])) = (vs.take (i + 1)).take i ++ [.iface 131 (.agg #[.int .i64 f, .slice (some ⟨rb, ro, none⟩) k k])] := by
      have h2 := hown.1
      rw [List.set_eq_take_append_cons_drop, if_pos (by omega)]
      congr 1
      rw [List.drop_of_length_le (by omega)]
    rw [hset]
    have hp : (Lg.mk g.a g.t g.m (g.rs.take j ++ [(f, l.take k)])).parts = (g.parts.take (i + 1)).take i ++ [.run f (l.take k)] := by
      subst hij
      rw [List.take_take, Nat.min_eq_left (by omega), g.parts_take]
      simp [Lg.parts]
    rw [hp]
    refine ((hpc.take i).keepS (Same.of_below' hbf S)).mono (fun _ _ h => .inl h) |>.append ⟨_, [], rfl, ⟨_, rfl, ?_⟩, rfl⟩
    refine ⟨(cs.drop (0 * 3)).take (k * 3), ?_, ?_⟩
    · have := ((hrl.cut 0 k k (by omega) (Nat.le_refl _) (by omega)).keep hbf).mono (T := fun b => S b ∨ w.heap.size ≤ b) (fun _ _ h => .inl h)
      have hkl : (l.take k).length = k := by simp; omega
      rw [hkl]
      simpa using this
    · simpa using ((hec.take k).keepS (Same.of_below' hbf S)).mono (T := fun b => S b ∨ w.heap.size ≤ b) (fun _ _ h => .inl h)

set_option maxRecDepth 100000 in
set_option maxHeartbeats 2000000 in
theorem upto_run {S : Nat → Prop} (p : Value) (g : Lg) (n : Int) (w : World) (h : LogAt S w p g.parts) (hg : g.Good) (hn1 : g.a < n) (hn2 : n ≤ g.top) :
    Calls Tryz.prog 141 #[p, .int .i64 n] w fun e w' => ∃ q j, ∃ hj : j < g.rs.length, g.rs[j].1 ≤ n ∧ n ≤ g.rs[j].1 + g.rs[j].2.length - 1 ∧ e = .returned (.tuple #[q, .int .i64 0]) ∧
      LogAt (fun b => S b ∨ w.heap.size ≤ b) w' q (g.cutAt j n).parts ∧ Below w.heap.size w w' := by
  have Hf := Lib.hid (find_lg p g n w h hg)
  obtain ⟨b, sv, vs, rfl, -, hcell, hrow, hpc⟩ := h
  obtain ⟨pb, po, pc, rfl, hn, hc, -, hlt, hcells⟩ := hrow.form (by simp [Lg.parts])
  have hle := hg.parts_le
  have hp0 : 0 < g.parts.length := by simp [Lg.parts]
  go_enter Tryz.func141, Tryz.ntmps141
  go_wp2_with fail
  refine Hf.out.mono ?_
  rintro e w1 ⟨hp, hb⟩
  have hcell1 := cell_keep hb hcell
  rcases hp with ⟨i, hi, v, hh, -, hv, rfl⟩ | ⟨hno, rfl⟩
  · rcases hg.part hi hh with ⟨rfl, rfl⟩ | ⟨j, hj, hij, h1, h2, h3, h4, -⟩
    · omega
    · replace hv : PartV S w v (.run g.rs[j].1 g.rs[j].2) := by subst hij; rwa [g.parts_succ j hj] at hv
      have Hij := Lib.hid hij
      have hil : i ≤ 4096 := by have := g.parts_length; omega
      have Hr0 := Lib.hid (hg.run_ok j hj)
      obtain ⟨k1, k2, k3, k4⟩ := hg.run_ok j hj
      have Hv := Lib.hid hv
      obtain ⟨sl, rfl, cs, hrl, hec⟩ := hv
      obtain ⟨rb, ro, rc, rfl, hrn, hrc, -, hrb, hrcell⟩ := hrl.form k3
      have hpc1 := hpc.take (i + 1)
      have hl1 : (vs.take (i + 1)).length = (i + 1) * 1 := by have := hpc.length; simp; omega
      have hk := fun k u (hu : (vs.take (i + 1))[k]? = some u) => cell_keep hb (hcells k u (by rw [List.getElem?_take] at hu; split at hu <;> simp_all))
      have Hpc := Lib.hid hpc1
      have Hone := Lib.hid hpc1.one
      have Hk := Lib.hid hk
      have Hl := Lib.hid hl1
      have Hc := Lib.hid hc
      have Hrl := Lib.hid hrl
      have Hec := Lib.hid hec
      have Hrn := Lib.hid hrn
      have Hrc := Lib.hid hrc
      have hc1 : i + 1 ≤ pc := by omega
      unfold maxLen at hc hrc
      have e1 : (i : Int) + 1 ≤ (pc : Int) := by omega
      clear hij hk hl1 hpc1 hcells hpc hrow hcell hh hi hn hrcell hec hrl hrn
      go_wp2_with fail
      refine (clone_parts w1 pb po (i + 1) pc (vs.take (i + 1)) Hl.out hc1 Hc.out (by omega) Hone.out Hk.out).mono ?_
      rintro e w2 ⟨v, rfl, hown, hb2⟩
      obtain ⟨gb, cap, rfl, hgb, hgl⟩ := hown.form (by omega)
      have hcj := hown.cells (g := gb) rfl i ((vs.take (i + 1))[i]'(by have := Hl.out; omega)) (by simp)
      have hfj := hown.frozenAt (g := gb) i
      rw [add_plain, Nat.zero_add] at hcj
      have Hown := Lib.hid hown
      have Hx := Lib.hid (show (g.rs[j]'hj) = (g.rs[j].1, g.rs[j].2) from rfl)
      clear hown
      generalize g.rs[j].1 = f at *
      generalize g.rs[j].2 = l at *
      generalize (vs.take (i + 1))[i]'_ = old at *
      have i1 : (0 : Int) ≤ n - f := by omega
      have i2 : n - f + 1 ≤ (rc : Int) := by have := Hrn.out; omega
      have i3 : (0 : Int) ≤ n - f + 1 := by omega
      have q1 : IntKind.i64.wrap (n - f) = n - f := IntWalk.i64_in _ (by omega)
      have q2 : IntKind.i64.wrap (n - f + 1) = n - f + 1 := IntWalk.i64_in _ (by omega)
      have i4 : (0 : Int) ≤ (i : Int) := by omega
      obtain ⟨m, hm⟩ : ∃ m, i + 1 = m := ⟨_, rfl⟩
      have i5 : (i : Int) < (m : Int) := by omega
      have Hm := Lib.hid hm
      rw [hm]
      clear hm
      have hne1 := World.new_ne w2 _ hcj
      go_wp2_with fail
      go_region_held3 (fun w' => w'.cell? ⟨w2.heap.size, 0, none⟩ = some (.int .i64 f) ∧ w'.cell? ⟨w2.heap.size, 1, none⟩ = some (.slice (some ⟨rb, ro, none⟩) l.length rc)) (first | exact ⟨cell_set_alloc _ _ _ _ _ _ _ rfl, cell_set_alloc _ _ _ _ _ _ _ rfl⟩ | go_keep) (fail)
      go_wp2_with fail
      go_ret2
      have hbf : Below w.heap.size w ((((w2.setCell ⟨gb, i, none⟩ (.iface 131 (.agg #[.int .i64 f, .slice (some ⟨rb, ro, none⟩) (n - f + 1).toNat (n - f + 1).toNat]))).alloc (.cells #[.int .i64 f, .slice (some ⟨rb, ro, none⟩) l.length rc] 131)).alloc (.cells #[.slice (some ⟨gb, 0, none⟩) m cap] 125)).drew) :=
        (below_alloc (below_alloc ((below_then hb hb2).setCell (p := ⟨gb, i, none⟩) (by have := hb.size; simp; omega) _) _) _).drew
      refine ⟨_, j, hj, by rw [Hx.out]; exact h3, by rw [Hx.out]; exact h4, rfl, ?_, hbf⟩
      have hcut : g.cutAt j n = Lg.mk g.a g.t g.m (g.rs.take j ++ [(f, l.take (n - f + 1).toNat)]) := by
        unfold Lg.cutAt; rw [List.getElem?_eq_getElem hj, Hx.out]
      rw [hcut]
      exact upto_log Hij.out Hm.out (by have := Hl.out; omega) Hpc.out Hown.out hb.size hgb Hrl.out Hec.out (below_then hb hb2) _ (by omega) _
  · exfalso
    have := hg.noPart fun j hj => hno j hj hj
    omega
end Go.Proofs.YtahagecdebadfaaGreat

namespace Go.Proofs.YtahagecdebadfaaGreat

def Lg.topTerm (g : Lg) : Int := match g.rs.getLast? with
  | some r => headTerm r.2
  | none => g.t
def addE (a : Int) (rs : List (Int × List Ent)) (e : Ent) : List (Int × List Ent) := match rs.getLast? with
  | some r => if e.term = headTerm r.2 then rs.dropLast ++ [(r.1, r.2 ++ [e])] else rs ++ [(r.1 + r.2.length, [e])]
  | none => [(a + 1, [e])]
def Lg.add (g : Lg) (e : Ent) : Lg := { g with rs := addE g.a g.rs e }
def Lg.adds (g : Lg) (l : List Ent) : Lg := l.foldl Lg.add g
def okSeq (t : Int) : List Ent → Bool
  | [] => true
  | e :: es => rightB e && decide (t ≤ e.term) && okSeq e.term es

theorem Lg.Good.topTerm {g : Lg} (h : g.Good) : g.termAt g.top = g.topTerm := by
  rcases h.last with ⟨hr, -, ht, htt⟩ | ⟨f, l, -, -, ht, htt, -, hrs⟩
  · simp [Lg.topTerm, hr, htt]
  · rw [htt]; unfold Lg.topTerm; rw [hrs]; simp

theorem Chain.append {p t : Int} : ∀ {rs qs : List (Int × List Ent)}, Chain p t rs → Chain (p + (allOf rs).length) (match rs.getLast? with | some r => headTerm r.2 + 1 | none => t) qs → Chain p t (rs ++ qs)
  | [], qs, _, h => by simpa [allOf] using h
  | [(f, l)], qs, ⟨h1, h2, h3, h4, h5⟩, h => ⟨h1, h2, h3, h4, by
      subst h1
      simpa [allOf] using h⟩
  | (f, l) :: r :: rs, qs, ⟨h1, h2, h3, h4, h5⟩, h => ⟨h1, h2, h3, h4, by
      refine Chain.append h5 ?_
      subst h1
      rw [allOf_cons] at h
      have e1 : f + (l ++ allOf (r :: rs)).length = f + ↑l.length + ↑(allOf (r :: rs)).length := by simp; omega
      have e2 : ((f, l) :: r :: rs).getLast? = (r :: rs).getLast? := by simp [List.getLast?]
      rw [e2] at h
      simp only [] at h
      rw [e1] at h
      cases hr : (r :: rs).getLast? with
      | none => simp at hr
      | some q => rw [hr] at h; exact h⟩
theorem Chain.dropLast {p t : Int} : ∀ {rs : List (Int × List Ent)}, Chain p t rs → Chain p t rs.dropLast
  | [], h => h
  | [_], _ => trivial
  | (_f, _l) :: _r :: _rs, ⟨h1, h2, h3, h4, h5⟩ => ⟨h1, h2, h3, h4, Chain.dropLast h5⟩

/-- The last run, taken apart. -/
theorem Chain.split {p t : Int} : ∀ {rs : List (Int × List Ent)} {r : Int × List Ent}, Chain p t (rs ++ [r]) → Chain p t rs ∧ r.1 = p + (allOf rs).length ∧ r.2 ≠ [] ∧ (∀ e ∈ r.2, e.term = headTerm r.2 ∧ rightB e = true) ∧ (match rs.getLast? with | some q => headTerm q.2 + 1 | none => t) ≤ headTerm r.2
  | [], r, ⟨h1, h2, h3, h4, _⟩ => ⟨trivial, by simp [allOf, h1], h2, h3, h4⟩
  | [(f, l)], r, ⟨h1, h2, h3, h4, h5⟩ => by
    obtain ⟨-, a2, a3, a4, a5⟩ := Chain.split (rs := []) h5
    exact ⟨⟨h1, h2, h3, h4, trivial⟩, by simp [allOf] at a2 ⊢; omega, a3, a4, a5⟩
  | (f, l) :: q :: rs, r, ⟨h1, h2, h3, h4, h5⟩ => by
    obtain ⟨a1, a2, a3, a4, a5⟩ := Chain.split (rs := q :: rs) h5
    refine ⟨⟨h1, h2, h3, h4, a1⟩, by simp [allOf_cons] at a2 ⊢; omega, a3, a4, ?_⟩
    have e2 : ((f, l) :: q :: rs).getLast? = (q :: rs).getLast? := by simp [List.getLast?]
    rw [e2]
    cases hr : (q :: rs).getLast? with
    | none => simp at hr
    | some x => rw [hr] at a5; exact a5

/-- One entry more. -/
theorem Lg.Good.add {g : Lg} (h : g.Good) {e : Ent} (he : rightB e = true) (ht : g.topTerm ≤ e.term) (hl : g.ents.length < 4096) :
    (g.add e).Good ∧ (g.add e).ents = g.ents ++ [e] ∧ (g.add e).topTerm = e.term := by
  have hc := h.chain
  have key : Chain (g.a + 1) g.t (addE g.a g.rs e) ∧ allOf (addE g.a g.rs e) = allOf g.rs ++ [e] ∧ (Lg.mk g.a g.t g.m (addE g.a g.rs e)).topTerm = e.term := by
    rcases List.eq_nil_or_concat g.rs with hr | ⟨rs, r, hr⟩
    · rw [hr]
      simp only [Lg.topTerm, hr, List.getLast?_nil] at ht
      simp [addE, allOf, Lg.topTerm, headTerm, Chain, he, ht]
    · rw [List.concat_eq_append] at hr
      rw [hr] at hc ⊢
      obtain ⟨c1, c2, c3, c4, c5⟩ := Chain.split hc
      simp only [Lg.topTerm, hr, List.getLast?_append, List.getLast?_singleton, Option.some_or] at ht
      have hh : headTerm (r.2 ++ [e]) = headTerm r.2 := by
        cases hr2 : r.2 with
        | nil => exact absurd hr2 c3
        | cons x xs => rfl
      unfold addE
      simp only [List.getLast?_append, List.getLast?_singleton, Option.some_or, List.dropLast_concat]
      split
      · rename_i heq
        refine ⟨Chain.append c1 ⟨c2, by simp, ?_, by rw [hh]; exact c5, trivial⟩, by simp [allOf], by simp [Lg.topTerm, hh, heq]⟩
        intro x hx
        rw [hh]
        rcases List.mem_append.1 hx with hx | hx
        · exact c4 x hx
        · simp at hx; subst hx; exact ⟨heq, he⟩
      · rename_i hne
        refine ⟨Chain.append hc ⟨?_, by simp, ?_, ?_, trivial⟩, by simp [allOf], by simp [Lg.topTerm, headTerm]⟩
        · simp [allOf] at c2 ⊢; omega
        · intro x hx; simp at hx; subst hx; exact ⟨rfl, he⟩
        · simp only [List.getLast?_append, List.getLast?_singleton, Option.some_or]
          show headTerm r.2 + 1 ≤ e.term
          omega
  exact ⟨⟨h.a0, h.a1, h.t0, h.t1, h.m0, h.m1, key.1, by show (allOf (addE g.a g.rs e)).length ≤ 4096; rw [key.2.1]; unfold Lg.ents at hl; simp; omega⟩, key.2.1, key.2.2⟩

theorem Lg.adds_snoc (g : Lg) (l : List Ent) (e : Ent) : g.adds (l ++ [e]) = (g.adds l).add e := by simp [Lg.adds]
/-- The term behind which the next one comes. -/
def lastT (t : Int) (l : List Ent) : Int := match l.getLast? with
  | some x => x.term
  | none => t
theorem lastT_nil (t : Int) : lastT t [] = t := rfl
theorem lastT_snoc (t : Int) (l : List Ent) (e : Ent) : lastT t (l ++ [e]) = e.term := by simp [lastT]
theorem okSeq_snoc : ∀ (t : Int) (l : List Ent) (e : Ent), okSeq t (l ++ [e]) = (okSeq t l && rightB e && decide (lastT t l ≤ e.term))
  | t, [], e => by show (rightB e && decide (t ≤ e.term) && true) = (true && rightB e && decide (t ≤ e.term)); rw [Bool.and_true, Bool.true_and]
  | t, [x], e => by
    have : lastT t [x] = x.term := rfl
    simp only [List.cons_append, List.nil_append, okSeq, Bool.and_true, this, Bool.and_assoc]
  | t, x :: y :: l, e => by
    have h := okSeq_snoc x.term (y :: l) e
    have e2 : lastT t (x :: y :: l) = lastT x.term (y :: l) := by
      unfold lastT
      have e3 : (x :: y :: l).getLast? = (y :: l).getLast? := by simp [List.getLast?]
      rw [e3]
      cases hr : (y :: l).getLast? with
      | none => simp at hr
      | some q => rfl
    rw [e2]
    show (rightB x && decide (t ≤ x.term) && okSeq x.term (y :: l ++ [e])) = _
    rw [h]
    show _ = (rightB x && decide (t ≤ x.term) && okSeq x.term (y :: l) && rightB e && _)
    simp only [Bool.and_assoc]
theorem okSeq_take_false {t : Int} : ∀ {l : List Ent} (k : Nat), okSeq t (l.take k) = false → okSeq t l = false := by
  intro l
  induction l generalizing t with
  | nil => intro k h; simpa using h
  | cons x l ih =>
    intro k h
    cases k with
    | zero => simp [okSeq] at h
    | succ k =>
      simp only [List.take_succ_cons, okSeq, Bool.and_eq_false_iff] at h ⊢
      rcases h with h | h
      · exact .inl h
      · exact .inr (ih k h)
theorem snoc_ind {α : Type} {P : List α → Prop} (h0 : P []) (hs : ∀ l e, P l → P (l ++ [e])) (l : List α) : P l := by
  have h : ∀ r : List α, P r.reverse := by
    intro r
    induction r with
    | nil => exact h0
    | cons x r ih => rw [List.reverse_cons]; exact hs _ _ ih
  simpa using h l.reverse
/-- All that can be said behind entries that fit. -/
theorem Lg.Good.adds {g : Lg} (h : g.Good) : ∀ (l : List Ent), okSeq g.topTerm l = true → g.ents.length + l.length ≤ 4096 →
    (g.adds l).Good ∧ (g.adds l).ents = g.ents ++ l ∧ (g.adds l).topTerm = lastT g.topTerm l ∧ (g.adds l).a = g.a ∧ (g.adds l).t = g.t ∧ (g.adds l).m = g.m := by
  refine snoc_ind ?_ ?_
  · intro _ _; exact ⟨h, by simp [Lg.adds], rfl, rfl, rfl, rfl⟩
  · intro l e ih hok hlen
    rw [okSeq_snoc] at hok
    simp only [Bool.and_eq_true, decide_eq_true_eq] at hok
    obtain ⟨h1, h2, h3, h4, h5, h6⟩ := ih hok.1.1 (by simp at hlen; omega)
    rw [← h3] at hok
    have hl : (g.adds l).ents.length < 4096 := by rw [h2]; simp at hlen ⊢; omega
    obtain ⟨a1, a2, a3⟩ := h1.add hok.1.2 hok.2 hl
    rw [Lg.adds_snoc]
    refine ⟨a1, by rw [a2, h2]; simp, by rw [a3, lastT_snoc], h4, h5, h6⟩
end Go.Proofs.YtahagecdebadfaaGreat
