/- Texts that belong together, in one file: EntN, EntH, EntJ, EntK, EntR, EntS, EntU. No statement is proved here. -/
import Derived.Test.YtahagecdebadfaaGreatQEntM
import Derived.Deep.RegionLawGrows
import Derived.Deep.DeepCutAuto
import Derived.Deep.CutBlock
import Derived.Test.YtahagecdebadfaaGreatQFldF
import Derived.RangeFuncNested
import Derived.RangeFuncBound
import Derived.RangeFuncCalls
import Derived.RangeFuncLeaves
import Derived.RangeFuncBox
import Derived.Shelf.Abstract
import Derived.Shelf.RegionOpen
import Derived.Sort.QuietIn
import Derived.OwnWalkIn
import Derived.TacticsInMore
import Derived.LoopNIn
import Derived.LoopIn
import Derived.Maps.AppendAt
import Derived.WalkKit
namespace Go.Proofs.YtahagecdebadfaaGreat

theorem Chain.headAll {p t : Int} : ∀ {rs : List (Int × List Ent)} {e : Ent} {es : List Ent}, Chain p t rs → allOf rs = e :: es → t ≤ e.term
  | [], e, es, _, h => by simp [allOf] at h
  | (f, []) :: rs, e, es, ⟨_, h2, _⟩, _ => absurd rfl h2
  | (f, x :: l) :: rs, e, es, ⟨_, _, _, h4, _⟩, h => by
    simp [allOf_cons] at h
    rw [← h.1]; exact h4

theorem Chain.uniq_le {l l' us : List Ent} {f : Int} {rs : List (Int × List Ent)} {X : List Ent} (hl : l ≠ []) (h3 : ∀ e ∈ l', e.term = headTerm l' ∧ rightB e = true)
    (h5 : Chain f (headTerm l + 1) rs) (e1 : l' = l ++ us) (e2 : allOf rs = us ++ X) : us = [] := by
  cases us with
  | nil => rfl
  | cons a us =>
    exfalso
    have t1 := h5.headAll (by rw [e2]; rfl)
    have t2 := (h3 a (by rw [e1]; simp)).1
    have t3 : headTerm l' = headTerm l := by
      rw [e1]
      cases l with
      | nil => exact absurd rfl hl
      | cons b l => rfl
    omega

theorem Chain.uniq {p t t' : Int} : ∀ {rs qs : List (Int × List Ent)}, Chain p t rs → Chain p t' qs → allOf rs = allOf qs → rs = qs
  | [], [], _, _, _ => rfl
  | [], (f, l) :: qs, _, ⟨_, h2, _⟩, h => by simp [allOf] at h; exact absurd h.1 h2
  | (f, l) :: rs, [], ⟨_, h2, _⟩, _, h => by simp [allOf] at h; exact absurd h.1 h2
  | (f, l) :: rs, (f', l') :: qs, ⟨h1, h2, h3, h4, h5⟩, ⟨k1, k2, k3, k4, k5⟩, h => by
    simp only [allOf_cons] at h
    have e : l = l' ∧ allOf rs = allOf qs := by
      rcases List.append_eq_append_iff.1 h with ⟨us, e1, e2⟩ | ⟨us, e1, e2⟩
      · obtain rfl := Chain.uniq_le h2 k3 h5 e1 e2
        exact ⟨by simpa using e1.symm, by simpa using e2⟩
      · obtain rfl := Chain.uniq_le k2 h3 k5 e1 e2
        exact ⟨by simpa using e1, by simpa using e2.symm⟩
    obtain ⟨rfl, e⟩ := e
    subst h1 k1
    rw [Chain.uniq h5 k5 e]

theorem Lg.Good.ext {g h : Lg} (hg : g.Good) (hh : h.Good) (ha : g.a = h.a) (ht : g.t = h.t) (hm : g.m = h.m) (he : g.ents = h.ents) : g = h := by
  have c1 := hg.chain
  have c2 := hh.chain
  cases g with | mk a t m rs =>
  cases h with | mk a' t' m' rs' =>
  simp only at ha ht hm c1 c2
  subst ha ht hm
  rw [Chain.uniq c1 c2 he]

/-- The log over a floor with these entries. -/
def Lg.of (a t m : Int) (es : List Ent) : Lg := (Lg.mk a t m []).adds es
theorem Lg.of_nil (a t m : Int) : Lg.of a t m [] = Lg.mk a t m [] := rfl
theorem Lg.of_adds (a t m : Int) (es fs : List Ent) : (Lg.of a t m es).adds fs = Lg.of a t m (es ++ fs) := by simp [Lg.of, Lg.adds]

structure FloorOk (a t m : Int) : Prop where
  a0 : 0 ≤ a
  a1 : a ≤ 1099511627776
  t0 : 0 ≤ t
  t1 : t ≤ 1099511627776
  m0 : 1 ≤ m
  m1 : m ≤ 31
theorem FloorOk.base {a t m : Int} (h : FloorOk a t m) : (Lg.mk a t m []).Good := ⟨h.a0, h.a1, h.t0, h.t1, h.m0, h.m1, trivial, by simp [Lg.ents, allOf]⟩
theorem Lg.Good.floor {g : Lg} (h : g.Good) : FloorOk g.a g.t g.m := ⟨h.a0, h.a1, h.t0, h.t1, h.m0, h.m1⟩

theorem FloorOk.of {a t m : Int} (h : FloorOk a t m) {es : List Ent} (hok : okSeq t es = true) (hl : es.length ≤ 4096) :
    (Lg.of a t m es).Good ∧ (Lg.of a t m es).ents = es ∧ (Lg.of a t m es).topTerm = lastT t es ∧ (Lg.of a t m es).a = a ∧ (Lg.of a t m es).t = t ∧ (Lg.of a t m es).m = m := by
  have := h.base.adds es (by simpa [Lg.topTerm] using hok) (by simpa [Lg.ents, allOf] using hl)
  simpa [Lg.of, Lg.ents, allOf, Lg.topTerm] using this

theorem okSeq_le {t t' : Int} (h : t ≤ t') : ∀ {l : List Ent}, okSeq t' l = true → okSeq t l = true
  | [], _ => rfl
  | e :: es, hk => by
    simp only [okSeq, Bool.and_eq_true, decide_eq_true_eq] at hk ⊢
    exact ⟨⟨hk.1.1, by omega⟩, hk.2⟩
theorem lastT_cons (t : Int) (e : Ent) (es : List Ent) : lastT t (e :: es) = lastT e.term es := by
  unfold lastT
  rw [List.getLast?_cons]
  cases es.getLast? <;> rfl
theorem okSeq_append {t : Int} : ∀ {l m : List Ent}, okSeq t (l ++ m) = (okSeq t l && okSeq (lastT t l) m)
  | [], m => by simp [okSeq, lastT]
  | e :: es, m => by
    simp only [List.cons_append, okSeq, okSeq_append (t := e.term) (l := es), lastT_cons, Bool.and_assoc]
theorem okSeq_run {T : Int} : ∀ {t : Int} {l : List Ent}, t ≤ T → (∀ e ∈ l, e.term = T ∧ rightB e = true) → okSeq t l = true ∧ (l ≠ [] → lastT t l = T)
  | t, [], h, _ => ⟨rfl, fun h => absurd rfl h⟩
  | t, e :: es, h, hl => by
    obtain ⟨h1, h2⟩ := hl e (by simp)
    have ih := okSeq_run (t := e.term) (l := es) (by omega) (fun x hx => hl x (by simp [hx]))
    refine ⟨?_, fun _ => ?_⟩
    · simp only [okSeq, Bool.and_eq_true, decide_eq_true_eq]
      exact ⟨⟨h2, by omega⟩, ih.1⟩
    · rw [lastT_cons]
      cases es with
      | nil => simpa [lastT] using h1
      | cons x xs => exact ih.2 (by simp)
theorem Chain.okSeq {p t : Int} : ∀ {rs : List (Int × List Ent)}, Chain p t rs → okSeq t (allOf rs) = true
  | [], _ => rfl
  | (f, l) :: rs, ⟨h1, h2, h3, h4, h5⟩ => by
    rw [allOf_cons, okSeq_append]
    obtain ⟨k1, k2⟩ := okSeq_run h4 h3
    rw [k1, k2 h2, okSeq_le (by omega) (Chain.okSeq h5)]; rfl

theorem Lg.Good.okEnts {g : Lg} (h : g.Good) : okSeq g.t g.ents = true := h.chain.okSeq
theorem Lg.Good.eq_of {g : Lg} (h : g.Good) : g = Lg.of g.a g.t g.m g.ents := by
  obtain ⟨h1, h2, h3, h4, h5, h6⟩ := h.floor.of h.okEnts h.len
  exact h.ext h1 h4.symm h5.symm h6.symm h2.symm
theorem okSeq_take {t : Int} {l : List Ent} (k : Nat) (h : okSeq t l = true) : okSeq t (l.take k) = true := by
  cases hk : okSeq t (l.take k) with
  | true => rfl
  | false => rw [okSeq_take_false k hk] at h; cases h

theorem Chain.cut {p t : Int} : ∀ {rs : List (Int × List Ent)}, Chain p t rs → ∀ (j : Nat) (hj : j < rs.length) (k : Nat), 1 ≤ k → Chain p t (rs.take j ++ [(rs[j].1, rs[j].2.take k)])
  | [], _, j, hj, _, _ => by simp at hj
  | (f, []) :: rs, ⟨_, h2, _⟩, _, _, _, _ => absurd rfl h2
  | (f, x :: l) :: rs, ⟨h1, h2, h3, h4, h5⟩, 0, _, k + 1, _ => by
    refine ⟨h1, by simp, fun e he => ?_, h4, trivial⟩
    exact h3 e (List.mem_of_mem_take he)
  | (f, l) :: rs, ⟨h1, h2, h3, h4, h5⟩, j + 1, hj, k, hk => by
    simp only [List.take_succ_cons, List.cons_append]
    exact ⟨h1, h2, h3, h4, Chain.cut h5 j (by simpa using hj) k hk⟩

/-- The log up to a place. -/
def Lg.upto (g : Lg) (n : Int) : Lg := Lg.of g.a g.t g.m (g.ents.take (n - g.a).toNat)

theorem Lg.Good.upto {g : Lg} (h : g.Good) (n : Int) : (g.upto n).Good ∧ (g.upto n).ents = g.ents.take (n - g.a).toNat ∧ (g.upto n).topTerm = lastT g.t (g.ents.take (n - g.a).toNat) ∧ (g.upto n).a = g.a ∧ (g.upto n).t = g.t ∧ (g.upto n).m = g.m :=
  h.floor.of (okSeq_take _ h.okEnts) (by have := h.len; simp; omega)

theorem take_two (A l R : List Ent) (k : Nat) (h : k ≤ l.length) : (A ++ (l ++ R)).take (A.length + k) = A ++ l.take k := by
  rw [List.take_append, List.take_of_length_le (by omega), Nat.add_sub_cancel_left, List.take_append_of_le_length h]

theorem Lg.Good.cutAt {g : Lg} (h : g.Good) {n : Int} {j : Nat} (hj : j < g.rs.length) (h1 : g.rs[j].1 ≤ n) (h2 : n ≤ g.rs[j].1 + g.rs[j].2.length - 1) : g.cutAt j n = g.upto n := by
  obtain ⟨a1, a2, a3, a4⟩ := h.chain.at j hj
  have hcut : g.cutAt j n = Lg.mk g.a g.t g.m (g.rs.take j ++ [(g.rs[j].1, g.rs[j].2.take (n - g.rs[j].1 + 1).toNat)]) := by
    unfold Lg.cutAt; rw [List.getElem?_eq_getElem hj]
  have hch := h.chain.cut j hj (n - g.rs[j].1 + 1).toNat (by omega)
  have hents : allOf (g.rs.take j ++ [(g.rs[j].1, g.rs[j].2.take (n - g.rs[j].1 + 1).toNat)]) = g.ents.take (n - g.a).toNat := by
    have e0 := take_at g.rs j hj
    have e1 : (n - g.a).toNat = (allOf (g.rs.take j)).length + (n - g.rs[j].1 + 1).toNat := by omega
    show _ = (allOf g.rs).take _
    rw [e0, allOf_append, e1, take_two _ _ _ _ (by omega)]
    simp [allOf]
  obtain ⟨u1, u2, -, u4, u5, u6⟩ := h.upto n
  refine Lg.Good.ext ?_ u1 (by rw [hcut, u4]) (by rw [hcut, u5]) (by rw [hcut, u6]) (by rw [hcut, u2]; exact hents)
  rw [hcut]
  refine ⟨h.a0, h.a1, h.t0, h.t1, h.m0, h.m1, hch, ?_⟩
  show (allOf _).length ≤ 4096
  have := h.len
  rw [hents]; simp; omega

theorem Lg.upto_floor (g : Lg) : g.upto g.a = Lg.mk g.a g.t g.m [] := by simp [Lg.upto, Lg.of, Lg.adds]

theorem lastT_take {t : Int} {l : List Ent} {k : Nat} (h0 : 0 < k) (h : k ≤ l.length) : lastT t (l.take k) = (l[k - 1]'(by omega)).term := by
  obtain ⟨k, rfl⟩ : ∃ i, k = i + 1 := ⟨k - 1, by omega⟩
  have e : l[k + 1 - 1]'(by omega) = l[k]'(by omega) := rfl
  rw [e, List.take_succ_eq_append_getElem (by omega), lastT_snoc]
/-- The term of a place is the top's term of the log up to there. -/
theorem Lg.Good.uptoTerm {g : Lg} {n : Int} (h1 : g.a ≤ n) (h2 : n ≤ g.top) : lastT g.t (g.ents.take (n - g.a).toNat) = g.termAt n := by
  unfold Lg.termAt
  by_cases hn : n = g.a
  · subst hn; simp [lastT]
  · rw [if_neg hn, if_pos ⟨by omega, h2⟩]
    have hl : (n - g.a).toNat ≤ g.ents.length := by unfold Lg.top at h2; omega
    rw [lastT_take (by omega) hl]
    have e : (n - g.a - 1).toNat = (n - g.a).toNat - 1 := by omega
    rw [e, List.getElem?_eq_getElem (by omega)]; rfl

/-! ### Join -/

/-- How many entries a log has already. -/
def skipN (g : Lg) : Int → List Ent → Nat
  | _, [] => 0
  | at_, e :: l => if 0 ≤ e.term ∧ g.termAt (at_ + 1) = e.term then skipN g (at_ + 1) l + 1 else 0
theorem skipN_le (g : Lg) : ∀ (at_ : Int) (l : List Ent), skipN g at_ l ≤ l.length
  | _, [] => Nat.le_refl _
  | at_, e :: l => by
    have := skipN_le g (at_ + 1) l
    simp only [skipN, List.length_cons]; split <;> omega
/-- What comes of a join: the log's entries, if there is one. -/
structure Jn where
  log : Option (List Ent)
  yes : Bool
  fin : Int
  from_ : Int
  back : Int
def Lg.joinGo (g : Lg) (at_ : Int) (l : List Ent) : Jn :=
  let k := skipN g at_ l
  if l.length ≤ k then ⟨some g.ents, true, at_ + l.length, 0, 0⟩
  else if okSeq (g.termAt (at_ + k)) (l.drop k) = true ∧ at_ + l.length - g.a ≤ 4096 then
    ⟨some (g.ents.take (at_ + k - g.a).toNat ++ l.drop k), true, at_ + l.length, at_ + k + 1, 0⟩
  else ⟨none, false, 0, 0, at_ + k⟩
def Lg.join (g : Lg) (at_ term : Int) (l : List Ent) : Jn :=
  if g.a ≤ at_ then
    if g.termAt at_ < 0 ∨ g.termAt at_ ≠ term then ⟨none, false, 0, 0, g.back at_⟩ else g.joinGo at_ l
  else if l.length ≤ g.a - at_ then ⟨none, false, 0, 0, g.a⟩
  else g.joinGo g.a (l.drop (g.a - at_).toNat)
theorem Lg.termAt_in {g : Lg} {n : Int} (h : 0 ≤ g.termAt n) : g.a ≤ n ∧ n ≤ g.top := by
  rcases Int.lt_or_le n g.a with h1 | h1
  · rw [Lg.termAt_none (.inl h1)] at h; omega
  · rcases Int.lt_or_le g.top n with h2 | h2
    · rw [Lg.termAt_none (.inr h2)] at h; omega
    · exact ⟨h1, h2⟩
theorem skipN_in (g : Lg) : ∀ (at_ : Int) (l : List Ent), g.a ≤ at_ → at_ ≤ g.top → at_ + skipN g at_ l ≤ g.top
  | _, [], _, h => by simpa [skipN] using h
  | at_, e :: l, h1, h2 => by
    simp only [skipN]
    split
    · rename_i h
      have hi := Lg.termAt_in (g := g) (n := at_ + 1) (by omega)
      have := skipN_in g (at_ + 1) l (by omega) hi.2
      omega
    · simpa using h2
end Go.Proofs.YtahagecdebadfaaGreat

namespace Go.Proofs.YtahagecdebadfaaGreat
open Go.RowKit
attribute [local go_sem ↓] Go.wp_at_zero Go.wp_at_succ

theorem with_nil (lv : Value) (w : World) : Calls Tryz.prog 30 #[.pointer none, lv] w fun e w' => e = .returned (.tuple #[.pointer none, .int .i64 2]) ∧ w = w' := by
  go_enter Tryz.func30, Tryz.ntmps30
  go_wp2_with fail
  go_ret2
  exact ⟨rfl, rfl⟩

set_option maxRecDepth 100000 in
set_option maxHeartbeats 1000000 in
theorem with_full {S : Nat → Prop} (p : Value) (g : Lg) (A : Option Addr) (n c : Nat) (w : World) (h : LogAt S w p g.parts) (hg : g.Good) (hn : 4096 < g.ents.length + n) (hn' : n ≤ 9000000000000000000) :
    Calls Tryz.prog 30 #[p, .slice A n c] w fun e w' => e = .returned (.tuple #[.pointer none, .int .i64 4]) ∧ Below w.heap.size w w' := by
  have Hc := Lib.hid (count_any p g w h hg)
  have hl := hg.len
  obtain ⟨b, sv, vs, rfl, -, -⟩ := h
  have e1 : (4096 : Int) < (g.ents.length : Int) + (n : Int) := by omega
  have e2 : (g.ents.length : Int) ≤ 4096 := by omega
  have e3 : (0 : Int) ≤ (g.ents.length : Int) := by omega
  go_enter Tryz.func30, Tryz.ntmps30
  go_wp2_with (go_at_call 84; refine Hc.out.mono ?_; rintro e w1 ⟨rfl, hb⟩)
  go_ret2
  exact ⟨rfl, hb⟩

/-- What 'With' answers where there is room. -/
def WithPost (S : Nat → Prop) (w : World) (g : Lg) (l : List Ent) (e : Ending) (w' : World) : Prop :=
  (okSeq g.topTerm l = true ∧ ∃ q, e = .returned (.tuple #[q, .int .i64 0]) ∧ LogAt (fun b => S b ∨ w.heap.size ≤ b) w' q (g.adds l).parts) ∨
  (okSeq g.topTerm l = false ∧ e = .returned (.tuple #[.pointer none, .int .i64 1]))
/-- What holds at the head of each round. -/
def WithInv (S : Nat → Prop) (w : World) (g : Lg) (l : List Ent) (at_ term parts i : Value) (wr : World) : Prop :=
  ∃ (k n cap gb : Nat) (vs : List Value), k ≤ l.length ∧ i = .int .i64 k ∧ okSeq g.topTerm (l.take k) = true ∧ at_ = .int .i64 (g.adds (l.take k)).top ∧ term = .int .i64 (g.adds (l.take k)).topTerm ∧
    parts = .slice (some ⟨gb, 0, none⟩) n cap ∧ n = (g.adds (l.take k)).parts.length ∧ wr.ownsRow w.heap.size 128 1 (.slice (some ⟨gb, 0, none⟩) n cap) n vs ∧
    PartCells (fun b => (S b ∨ w.heap.size ≤ b) ∧ b ≠ gb) wr (g.adds (l.take k)).parts vs ∧ Below w.heap.size w wr

theorem same_grown {wr W w6 : World} {gb' : Nat} (hW : Below wr.heap.size wr W) (hg : W.grownBy w6 (some gb')) : Same (fun b => b ≠ gb' ∧ b < wr.heap.size) wr w6 :=
  ⟨Nat.le_trans hW.size hg.size, fun b hs hi => (hg.block b (Nat.lt_of_lt_of_le hi hW.size) (by simp; exact hs.1)).trans (hW.block b hi)⟩
theorem same_new {wr W w6 : World} {gb' : Nat} (hlt : gb' < wr.heap.size) (hg : W.grownBy w6 (some gb')) : Same (fun b => wr.heap.size ≤ b ∧ b < W.heap.size) W w6 :=
  ⟨hg.size, fun b hs hi => hg.block b hi (by simp; omega)⟩
/-- One part more, behind an append. -/
theorem inv_push {S : Nat → Prop} {B gb' g6 : Nat} {wr W w6 : World} {ps : List Part} {q : Part} {vs' : List Value} {nv : Value}
    (hpc : PartCells (fun b => (S b ∨ B ≤ b) ∧ b ≠ gb') wr ps vs') (hlt : gb' < wr.heap.size) (hB : B ≤ wr.heap.size) (hW : Below wr.heap.size wr W) (hnv : PartV (wr.heap.size ≤ ·) W nv q)
    (hg : W.grownBy w6 (some gb')) (hat : g6 = gb' ∨ g6 = W.heap.size) :
    PartCells (fun b => (S b ∨ B ≤ b) ∧ b ≠ g6) w6 (ps ++ [q]) (vs' ++ [nv]) := by
  have hWs := hW.size
  refine PartCells.append ?_ ⟨nv, [], rfl, ?_, rfl⟩
  · refine PartCells.mono (fun b _ hs => ⟨hs.1, ?_⟩) (PartCells.keepS (S := fun b => (S b ∨ B ≤ b) ∧ b ≠ gb' ∧ b < wr.heap.size) ((same_grown hW hg).mono fun b hs => hs.2) (PartCells.mono (fun b hb hs => ⟨hs.1, hs.2, hb⟩) hpc))
    rcases hat with rfl | rfl
    · exact hs.2.1
    · have := hs.2.2; omega
  · refine PartV.mono (S := fun b => wr.heap.size ≤ b ∧ b < W.heap.size) (PartV.keepS (PartV.mono hnv (fun b hb hs => ⟨hs, hb⟩)) (same_new hlt hg)) (fun b hb6 hs => ⟨.inr (by omega), ?_⟩)
    rcases hat with rfl | rfl
    · have := hs.1; omega
    · have := hs.2; omega
/-- The last part replaced. -/
theorem inv_set {S : Nat → Prop} {B n gb' : Nat} {wr W : World} {ps : List Part} {q : Part} {vs' : List Value} {nv : Value}
    (hpc : PartCells (fun b => (S b ∨ B ≤ b) ∧ b ≠ gb') wr ps vs') (hn : n = ps.length) (hn0 : 0 < n) (hW : Below wr.heap.size wr W) (hnv : PartV (fun b => (S b ∨ B ≤ b) ∧ b ≠ gb') W nv q) :
    PartCells (fun b => (S b ∨ B ≤ b) ∧ b ≠ gb') (W.setCell ⟨gb', n - 1, none⟩ nv) (ps.take (n - 1) ++ [q]) (vs'.set (n - 1) nv) := by
  have hl := hpc.length
  have hset : vs'.set (n - 1) nv = vs'.take (n - 1) ++ [nv] := by
    rw [List.set_eq_take_append_cons_drop, if_pos (by omega)]
    congr 1
    rw [List.drop_of_length_le (by omega)]
  rw [hset]
  have hs1 : Same (fun b => b ≠ gb') wr (W.setCell ⟨gb', n - 1, none⟩ nv) := (Same.of_below' hW _).setCell (by simp) _
  have hs2 : Same (fun b => b ≠ gb') W (W.setCell ⟨gb', n - 1, none⟩ nv) := (Same.refl _ _).setCell (by simp) _
  refine PartCells.append ?_ ⟨nv, [], rfl, ?_, rfl⟩
  · exact PartCells.keepS (hs1.mono fun b hs => hs.2) (hpc.take (n - 1))
  · exact PartV.keepS hnv (hs2.mono fun b hs => hs.2)

/-- The new run's value. -/
theorem run_new {wr W : World} {f : Int} {e : Ent} {b : Nat} {ov : Value} (hb : W.heap[b]? = some (.cells #[.int .i64 e.kind, .int .i64 e.term, ov] 113 (0, 0))) (hwb : wr.heap.size ≤ b) (h0 : in64 e.kind) (h1 : in64 e.term) (hov : Bytes (wr.heap.size ≤ ·) W ov e.cmd) :
    PartV (wr.heap.size ≤ ·) W (.iface 131 (.agg #[.int .i64 f, .slice (some ⟨b, 0, none⟩) 1 1])) (.run f [e]) :=
  ⟨_, rfl, [.int .i64 e.kind, .int .i64 e.term, ov], RowAt.of_blk (cs := [.int .i64 e.kind, .int .i64 e.term, ov]) hb hwb rfl (by simp [maxLen]), _, _, rfl, h0, h1, hov, rfl⟩

theorem okSeq_take_succ {t : Int} {l : List Ent} {k : Nat} (hk : k < l.length) : okSeq t (l.take (k + 1)) = (okSeq t (l.take k) && rightB l[k] && decide (lastT t (l.take k) ≤ l[k].term)) := by
  rw [List.take_succ_eq_append_getElem hk, okSeq_snoc]

/-- The round closes: an entry more. -/
theorem with_next {S : Nat → Prop} {w w6 : World} {g : Lg} {l : List Ent} {k n6 cap6 g6 : Nat} {vs6 : List Value} {e : Ent} (hg : g.Good) (hlen : g.ents.length + l.length ≤ 4096) (hk : k < l.length) (he : l[k] = e)
    (hok : okSeq g.topTerm (l.take k) = true) (hright : rightB e = true) (hterm : (g.adds (l.take k)).topTerm ≤ e.term) (hn6 : n6 = (g.adds (l.take (k + 1))).parts.length)
    (hown : w6.ownsRow w.heap.size 128 1 (.slice (some ⟨g6, 0, none⟩) n6 cap6) n6 vs6) (hpc : PartCells (fun b => (S b ∨ w.heap.size ≤ b) ∧ b ≠ g6) w6 (g.adds (l.take (k + 1))).parts vs6) (hb : Below w.heap.size w w6) :
    WithInv S w g l (.int .i64 ((g.adds (l.take k)).top + 1)) (.int .i64 e.term) (.slice (some ⟨g6, 0, none⟩) n6 cap6) (.int .i64 ((k + 1 : Nat) : Int)) w6 := by
  obtain ⟨h1, h2, h3, h4, -, -⟩ := hg.adds (l.take k) hok (by simp; omega)
  have hok' : okSeq g.topTerm (l.take (k + 1)) = true := by
    rw [okSeq_take_succ hk, hok, he, hright, ← h3]; simpa using hterm
  obtain ⟨-, k2, k3, k4, -, -⟩ := hg.adds (l.take (k + 1)) hok' (by simp; omega)
  refine ⟨k + 1, n6, cap6, g6, vs6, by omega, rfl, hok', ?_, ?_, rfl, hn6, hown, hpc, hb⟩
  · congr 1
    unfold Lg.top
    rw [h2, h4, k2, k4]
    simp; omega
  · rw [k3, List.take_succ_eq_append_getElem hk, he, lastT_snoc]

set_option maxRecDepth 100000 in
set_option maxHeartbeats 2000000 in
theorem with_room {S : Nat → Prop} (p : Value) (g : Lg) (lv : Value) (l : List Ent) (w : World) (h : LogAt S w p g.parts) (hg : g.Good) (hl : Ents S w lv l) (hn : g.ents.length + l.length ≤ 4096) :
    Calls Tryz.prog 30 #[p, lv] w fun e w' => WithPost S w g l e w' ∧ Below w.heap.size w w' := by
  have Hc := Lib.hid (count_any p g w h hg)
  have Ht := Lib.hid fun w' (hb : Below w.heap.size w w') => top_run p g w' (h.keep hb) hg
  have hle := hg.len
  obtain ⟨b, sv, vs, rfl, -, hcell, hrow, hpc⟩ := h
  obtain ⟨pb, po, pc, rfl, hpn, hpcm, -, hlt, hcells⟩ := hrow.form (by simp [Lg.parts])
  obtain ⟨cs, hlr, hec⟩ := hl
  obtain ⟨A, c, rfl⟩ := hlr.slice
  have e1 : (g.ents.length : Int) + (l.length : Int) ≤ 4096 := by omega
  have hple := hg.parts_le
  have Hlr := Lib.hid hlr
  have Hec := Lib.hid hec
  have Hpc := Lib.hid hpc
  have Hcs := Lib.hid hcells
  have Hg := Lib.hid hg
  have Hone := Lib.hid hpc.one
  have Hl1 := Lib.hid hrow.1
  have Hcm := Lib.hid hpcm
  have Htt := Lib.hid hg.topTerm
  clear hlr hec hpc hcells hrow hn hg hpcm
  go_enter Tryz.func30, Tryz.ntmps30
  go_wp2_with (first | (go_at_call 84; refine Hc.out.mono ?_; rintro e w1 ⟨rfl, hb⟩) | (go_at_call 34; refine (Ht.out _ hb).mono ?_; rintro e w2 ⟨rfl, hb2⟩; have hc2 := cell_keep (below_then hb hb2) hcell))
  refine (clone_parts w2 pb po g.parts.length pc vs Hl1.out hpn Hcm.out (by omega) Hone.out (fun i u hu => cell_keep (below_then hb hb2) (Hcs.out i u hu))).mono ?_
  rintro e w3 ⟨v, rfl, hown, hb3⟩
  obtain ⟨gb, cap, rfl, hgb, hgl⟩ := hown.form (by simp [Lg.parts])
  have Hown := Lib.hid hown
  clear hown
  go_wp2_with fail
  go_loopw [6, 7, 8, 36] (fun at_ term parts i wr => WithInv S w g l at_ term parts i wr) (fun _ _ _ i _ => l.length - (intOf i).toNat)
  case atStart =>
    have hbb := below_then (below_then hb hb2) hb3
    refine ⟨0, _, cap, gb, vs, Nat.zero_le _, rfl, rfl, rfl, by rw [Htt.out]; rfl, rfl, rfl, ?_, ?_, hbb⟩
    · have := Hown.out; exact ⟨this.1, this.2.imp id fun ⟨g', c', cu, h1, h2, h3⟩ => ⟨g', c', cu, h1, Nat.le_trans (below_then hb hb2).size h2, h3⟩⟩
    · exact ((Hpc.out.mono (fun b' hb' hs => ⟨.inl hs, by have := (below_then hb hb2).size; omega⟩)).keepS (Same.of_below' hbb _))
  case round =>
    obtain ⟨k, n, cap', gb', vs', hk, rfl, hok, rfl, rfl, rfl, hn, hown, hpc, hbr⟩ := hrel
    have Hok := Lib.hid hok
    have Hn := Lib.hid hn
    have Hown' := Lib.hid hown
    have Hpc' := Lib.hid hpc
    clear hok hn hown hpc
    by_cases hlt' : k < l.length
    · obtain ⟨eb, eo, ec, hA, hec1, hec2, -, heb, hecell⟩ := Hlr.out.form (by omega)
      injection hA with hA1 _ hA2
      subst hA1 hA2
      obtain ⟨cv, hk0, hk1, hk2, hi0, hi1, hbytes⟩ := Hec.out.at k hlt'
      have c0 := cell_keep hbr (hecell _ _ hk0)
      have c1 := cell_keep hbr (hecell _ _ hk1)
      have c2 := cell_keep hbr (hecell _ _ hk2)
      have hby := hbytes.keep hbr
      obtain ⟨cA, cc, rfl⟩ := hby.slice
      have Hby := Lib.hid hby
      rw [← Nat.add_assoc] at c1 c2
      have He := Lib.hid (show (l[k]'hlt') = ⟨l[k].kind, l[k].term, l[k].cmd⟩ from rfl)
      clear hecell hk0 hk1 hk2 hby hbytes
      generalize l[k].kind = ek at *
      generalize l[k].term = et at *
      generalize l[k].cmd = ecmd at *
      unfold maxLen at hec2
      have HA := Lib.hid (Hg.out.adds (l.take k) Hok.out (by simp; omega))
      have hat : 0 ≤ (g.adds (l.take k)).top ∧ (g.adds (l.take k)).top ≤ 1099511631872 := by
        obtain ⟨q1, -⟩ := HA.out
        have := q1.a0; have := q1.a1; have := q1.len
        unfold Lg.top; omega
      obtain ⟨hat0, hat1⟩ := hat
      have hn0 : 0 < n := by have := Hn.out; simp [Lg.parts] at this; omega
      have hn1 : n ≤ 4097 := by have := Hn.out; have := HA.out.1.parts_le; omega
      generalize hgk : g.adds (l.take k) = gk at *
      have Hgk := Lib.hid hgk
      clear hgk
      cases hright : rightB ⟨ek, et, ecmd⟩
      · go_wp2_with fail
        refine (right_any ek et _ ecmd _ (Hby.out.keep (box_below _ _))).mono ?_
        rintro e w4 ⟨rfl, hb4⟩
        rw [hright]
        go_wp2_with fail
        go_ret2
        refine ⟨.inr ⟨?_, rfl⟩, hbr.trans ((box_below wr _).trans (hb4.mono (by simp)) |>.mono hbr.size)⟩
        refine okSeq_take_false (k + 1) ?_
        rw [okSeq_take_succ hlt', He.out, hright]; simp
      · go_wp2_with fail
        refine (right_any ek et _ ecmd _ (Hby.out.keep (box_below _ _))).mono ?_
        rintro e w4 ⟨rfl, hb4⟩
        rw [hright]
        obtain ⟨d0, d1, d2, -⟩ := cells3 (blk_keep hb4 (blk_new wr _))
        by_cases hterm : et < gk.topTerm
        · go_wp2_with fail
          go_ret2
          refine ⟨.inr ⟨?_, rfl⟩, hbr.trans ((box_below wr _).trans (hb4.mono (by simp)) |>.mono hbr.size)⟩
          refine okSeq_take_false (k + 1) ?_
          have h3 := HA.out.2.2.1
          rw [okSeq_take_succ hlt', He.out, hright, ← h3]
          simp; omega
        · have hterm' : gk.topTerm ≤ et := by omega
          have hgk : gk.Good := HA.out.1
          have hbr4 : Below wr.heap.size wr w4 := (box_below wr _).trans (hb4.mono (by simp))
          obtain ⟨pv, hpv0, hpv⟩ := Hpc'.out.at (n - 1) (by have := Hn.out; omega)
          have hpc4 : w4.cell? ⟨gb', n - 1, none⟩ = some pv := by
            have := Hown'.out.cells (g := gb') rfl (n - 1) pv hpv0
            rw [add_plain, Nat.zero_add] at this
            exact cell_keep hbr4 this
          have hgb' : gb' < wr.heap.size := by
            obtain ⟨g1, c1, e1, -, e2⟩ := Hown'.out.form hn0
            injection e1 with e1; injection e1 with e1; injection e1 with e1; omega
          have hpf4 : w4.frozen? ⟨gb', n - 1, none⟩ = false := by
            rw [hbr4.frozen (p := ⟨gb', n - 1, none⟩) hgb']
            exact Hown'.out.frozenAt (n - 1)
          have d0' := fun o' => cell_keep (box_below w4 o') d0
          have d1' := fun o' => cell_keep (box_below w4 o') d1
          have d2' := fun o' => cell_keep (box_below w4 o') d2
          have hcl : ecmd.length ≤ 4080 := by simp [rightB] at hright; omega
          have j1 : (0 : Int) ≤ (n : Int) - 1 := by omega
          have j2 : (1 : Int) ≤ (n : Int) := by omega
          rcases hgk.last with ⟨hrs, hpe, htop, -⟩ | ⟨f, rl, hpe, hok, htop, htt, hat, hrs⟩
          · have hpe' : gk.parts[n - 1]'(by have := Hn.out; omega) = .ground gk.a gk.t gk.m := by
              rw [← hpe]; congr 1; have := Hn.out; omega
            rw [hpe'] at hpv
            obtain rfl := hpv
            have Hrs := Lib.hid hrs
            have Htop := Lib.hid htop
            clear hpe hpe' hrs htop hpv0
            go_wp2_with fail
            have hb5 := (box_below w4 (.cells #[.int .i64 0, .slice none 0 0] 131))
            refine (own_any _ ek et _ ecmd ((Hby.out.keep hbr4).keep hb5) (by omega)).mono ?_
            rintro e w5 ⟨ov, rfl, hov, hb5'⟩
            obtain ⟨oA, oc, rfl⟩ := hov.slice
            have Hov := Lib.hid hov
            obtain ⟨i0, hi, hz0, hz1, hz2⟩ := info_parts infoPart
            clear hov
            go_wp2_with (at_builtin; refine wpList_append_own_at _ rfl _ _ 123 rfl w.heap.size 128 i0 .nilIface 1 16 Tryz.underlying123 hi hz0 hz1 hz2 rfl (by decide) _ n vs' rfl ?ho ⟨w5.heap.size + 1, 0, none⟩ 1 1 [.iface 131 (.agg #[.int .i64 (gk.top + 1), .slice (some ⟨w5.heap.size, 0, none⟩) 1 1])] rfl rfl ?hn ?h1 ?hm ?h7 ?hB ?_)
            case hn => exact World.news_of_block (cs := #[_]) (t := 128) (fr := (0, 0)) (by have := blk_new (w5.alloc (.cells #[.int .i64 ek, .int .i64 et, .slice oA ecmd.length oc] 113)) (.cells #[.iface 131 (.agg #[.int .i64 (gk.top + 1), .slice (some ⟨w5.heap.size, 0, none⟩) 1 1])] 128); rwa [World.size_alloc] at this)
            case h1 => simp [Value.oneCell']
            case hm => simp [maxLen]; omega
            case h7 => omega
            case hB => simp; have := hbr.size; have := hbr4.size; have := hb5.size; have := hb5'.size; omega
            case ho => exact own_keep Hown'.out (below_alloc (below_alloc ((hbr4.trans (hb5.mono hbr4.size)).trans (hb5'.mono (by have := hb5.size; have := hbr4.size; omega))) _) _)
            intro v6 w6 hown6 hg6 _ hat6
            obtain ⟨g6, cap6, rfl, -, -⟩ := hown6.form (by omega)
            have hW5 : Below wr.heap.size wr ((w5.alloc (.cells #[.int .i64 ek, .int .i64 et, .slice oA ecmd.length oc] 113)).alloc (.cells #[.iface 131 (.agg #[.int .i64 (gk.top + 1), .slice (some ⟨w5.heap.size, 0, none⟩) 1 1])] 128)) :=
              below_alloc (below_alloc ((hbr4.trans (hb5.mono hbr4.size)).trans (hb5'.mono (by have := hb5.size; have := hbr4.size; omega))) _) _
            have hat6' : g6 = gb' ∨ g6 = ((w5.alloc (.cells #[.int .i64 ek, .int .i64 et, .slice oA ecmd.length oc] 113)).alloc (.cells #[.iface 131 (.agg #[.int .i64 (gk.top + 1), .slice (some ⟨w5.heap.size, 0, none⟩) 1 1])] 128)).heap.size := by
              simpa [Value.ownBlock] using hat6
            have hd1 : w6.cell? ⟨wr.heap.size, 1, none⟩ = some (.int .i64 et) := by
              have hx := cell_keep (below_alloc (below_alloc hb5' (.cells #[.int .i64 ek, .int .i64 et, .slice oA ecmd.length oc] 113)) (.cells #[.iface 131 (.agg #[.int .i64 (gk.top + 1), .slice (some ⟨w5.heap.size, 0, none⟩) 1 1])] 128)) (d1' (.cells #[.int .i64 0, .slice none 0 0] 131))
              rw [hg6.cell_far _ (block_lt hx) (by simp [Value.ownBlock]; omega)]
              exact hx
            have hb6 : Below w.heap.size w w6 := (hbr.trans (hW5.mono hbr.size)).grown hg6 (by have := hW5.size; have := hbr.size; omega) (fun k' hk' => by
              simp [Value.ownBlock] at hk'
              obtain ⟨g1, c1, e1, e3, -⟩ := Hown'.out.form hn0
              injection e1 with e1; injection e1 with e1; injection e1 with e1; omega)
            have hnv : PartV (wr.heap.size ≤ ·) ((w5.alloc (.cells #[.int .i64 ek, .int .i64 et, .slice oA ecmd.length oc] 113)).alloc (.cells #[.iface 131 (.agg #[.int .i64 (gk.top + 1), .slice (some ⟨w5.heap.size, 0, none⟩) 1 1])] 128)) (.iface 131 (.agg #[.int .i64 (gk.top + 1), .slice (some ⟨w5.heap.size, 0, none⟩) 1 1])) (.run (gk.top + 1) [⟨ek, et, ecmd⟩]) :=
              run_new (e := ⟨ek, et, ecmd⟩) (blk_alloc (blk_new w5 _) _) (by have := hbr4.size; have := hb5.size; have := hb5'.size; omega) hi0 hi1 ((Hov.out.mono (fun b' _ hs => by have := hbr4.size; have := hb5.size; omega)).keep (below_two _ _ _))
            have hpc6 := inv_push Hpc'.out hgb' hbr.size hW5 hnv hg6 hat6'
            have Hown6 := Lib.hid hown6
            have Hpc6 := Lib.hid hpc6
            have Hb6 := Lib.hid hb6
            clear hown6 hg6 hat6 hat6' hpc6 hnv hW5 d0' d1' d2' d0 d1 d2 hpc4 hpf4 c0 c1 c2 hb6
            go_wp2_with fail
            have hadd : g.adds (l.take (k + 1)) = Lg.mk gk.a gk.t gk.m (gk.rs ++ [(gk.top + 1, [⟨ek, et, ecmd⟩])]) := by
              rw [List.take_succ_eq_append_getElem hlt', Lg.adds_snoc, Hgk.out, He.out]
              unfold Lg.add addE
              rw [Hrs.out]
              simp [Htop.out]
            have hap : (g.adds (l.take (k + 1))).parts = gk.parts ++ [.run (gk.top + 1) [⟨ek, et, ecmd⟩]] := by rw [hadd]; simp [Lg.parts]
            go_roundw
            case rel =>
              have := with_next (S := S) (w6 := w6) Hg.out (by omega) hlt' He.out Hok.out hright (by rw [Hgk.out]; exact hterm') (n6 := n + 1) (by rw [hap]; simp; exact Hn.out) Hown6.out (by rw [hap]; exact Hpc6.out) Hb6.out
              rw [Hgk.out] at this
              simpa using this
            case measure => simp [intOf]; omega
          · have hpe' : gk.parts[n - 1]'(by have := Hn.out; omega) = .run f rl := by
              rw [← hpe]; congr 1; have := Hn.out; omega
            rw [hpe'] at hpv
            obtain ⟨sv, rfl, rcs, hrr, hre⟩ := hpv
            obtain ⟨m1, m2, m3, m4⟩ := hok
            obtain ⟨rb, ro, rc, rfl, hrn, hrc, hSr, hrb, hrcell⟩ := hrr.form m3
            have Hrs := Lib.hid hrs
            have Htop := Lib.hid htop
            have Hrr := Lib.hid hrr
            have Hre := Lib.hid hre
            have HSr := Lib.hid hSr
            have Hrcell := Lib.hid hrcell
            have Htt' := Lib.hid (show gk.topTerm = headTerm rl by rw [← hgk.topTerm]; exact htt)
            clear hpe hpe' hrs htop hpv0 hrr hre hSr hrcell htt
            unfold maxLen at hrc
            by_cases htq : et = gk.topTerm
            · have hne : (et == gk.topTerm) = true := beq_iff_eq.2 htq
              have Hne := Lib.hid htq
              clear htq
              obtain ⟨i0, hi, hz0, hz1, hz2⟩ := info_parts infoEntry
              have r1 : (0 : Int) < (n : Int) := by omega
              have r2 : (n : Int) - 1 < (n : Int) := by omega
              have r3 : IntKind.i64.wrap ((n : Int) - 1) = (n : Int) - 1 := IntWalk.i64_in _ (by omega)
              have r4 : ((n : Int) - 1).toNat = n - 1 := by omega
              have hrl4 : (rl.length : Int) ≤ (rc : Int) := by omega
              have hcl1 : ecmd.length ≤ 140737488355328 := by omega
              go_wp2_with fail
              have hsz4 := hbr4.size
              have hq1 : ¬ gb' = wr.heap.size := by omega
              have hq2 : ¬ gb' = w4.heap.size := by omega
              have hq3 : ¬ wr.heap.size = gb' := by omega
              have hq4 : ¬ w4.heap.size = gb' := by omega
              have hbx : Below w4.heap.size w4 (w4.alloc (.cells #[.int .i64 f, .slice (some ⟨rb, ro, none⟩) rl.length rc] 131)).drew := (box_below w4 _).drew
              obtain ⟨y0, y1, -⟩ : (w4.alloc (.cells #[.int .i64 f, .slice (some ⟨rb, ro, none⟩) rl.length rc] 131)).drew.cell? ⟨w4.heap.size, 0, none⟩ = some (.int .i64 f) ∧ (w4.alloc (.cells #[.int .i64 f, .slice (some ⟨rb, ro, none⟩) rl.length rc] 131)).drew.cell? ⟨w4.heap.size, 1, none⟩ = some (.slice (some ⟨rb, ro, none⟩) rl.length rc) ∧ True :=
                ⟨(cells2 (blk_new w4 _)).1, (cells2 (blk_new w4 _)).2.1, trivial⟩
              have y2 := cell_keep hbx d0
              have y3 := cell_keep hbx d1
              have y4 := cell_keep hbx d2
              have y5 := cell_keep hbx hpc4
              have y6 : (w4.alloc (.cells #[.int .i64 f, .slice (some ⟨rb, ro, none⟩) rl.length rc] 131)).drew.frozen? ⟨gb', n - 1, none⟩ = false := by
                rw [hbx.frozen (p := ⟨gb', n - 1, none⟩) (by show gb' < w4.heap.size; omega)]; exact hpf4
              have Hbx := Lib.hid hbx
              clear hbx d0' d1' d2' d0 d1 d2
              go_region_held3 (fun w' => w'.cell? ⟨w4.heap.size, 0, none⟩ = some (.int .i64 f) ∧ w'.cell? ⟨w4.heap.size, 1, none⟩ = some (.slice (some ⟨rb, ro, none⟩) rl.length rc) ∧ w'.cell? ⟨wr.heap.size, 0, none⟩ = some (.int .i64 ek) ∧ w'.cell? ⟨wr.heap.size, 1, none⟩ = some (.int .i64 et) ∧ w'.cell? ⟨wr.heap.size, 2, none⟩ = some (.slice cA ecmd.length cc)) (go_keep) (first | (go_at_call 87; refine (clip_any _ _ _ _ hrl4 (by omega)).mono ?_; rintro e w' ⟨rfl, rfl⟩) | (go_at_call 88; refine (own_any _ ek et _ ecmd (by exact (Hby.out.keep hbr4).keep Hbx.out) hcl1).mono ?_; rintro e w5 ⟨ov, rfl, hov, hb5'⟩; obtain ⟨oA, oc, rfl⟩ := hov.slice; have z0 := cell_keep hb5' y0; have z1 := cell_keep hb5' y1; have z2 := cell_keep hb5' y2; have z3 := cell_keep hb5' y3; have z4 := cell_keep hb5' y4; have z5 := cell_keep hb5' y5; have z6 := (hb5'.frozen (p := ⟨gb', n - 1, none⟩) (block_lt y5)).trans y6) | (refine step_append_grows (by rfl) _ _ _ (by rfl) 113 i0 _ 3 40 Tryz.underlying22 hi hz0 hz1 hz2 rfl (by decide) (some ⟨rb, ro, none⟩) rl.length rl.length rcs (by rfl) (by simp) Hrr.out.1 (fun b' hb' j' u' hu' => by cases hb'; rw [add_plain]; exact cell_keep (box_below w5 _) (cell_keep hb5' (cell_keep Hbx.out (cell_keep hbr4 (Hrcell.out j' u' hu'))))) ⟨w5.heap.size, 0, none⟩ 1 1 [.int .i64 ek, .int .i64 et, .slice oA ecmd.length oc] (by rfl) rfl (World.news_of_block (cs := #[.int .i64 ek, .int .i64 et, .slice oA ecmd.length oc]) (t := 113) (fr := (0, 0)) (blk_new w5 _)) (by simp [Value.oneCell']) (by omega) (by simp [maxLen]; omega) (by omega) ?_; intro v6 w6 hown6 hg6; obtain ⟨g6, cap6, rfl, hgb6, hgl6⟩ := hown6.form (by omega); have hb6 := below_of_grown hg6; have t0 := cell_keep hb6 (cell_keep (box_below w5 _) z0); have t1 := cell_keep hb6 (cell_keep (box_below w5 _) z1); have t2 := cell_keep hb6 (cell_keep (box_below w5 _) z2); have t3 := cell_keep hb6 (cell_keep (box_below w5 _) z3); have t4 := cell_keep hb6 (cell_keep (box_below w5 _) z4); have t5 := cell_keep hb6 (cell_keep (box_below w5 _) z5); have t6 := (hb6.frozen (p := ⟨gb', n - 1, none⟩) (block_lt (cell_keep (box_below w5 _) z5))).trans (((box_below w5 _).frozen (p := ⟨gb', n - 1, none⟩) (block_lt z5)).trans z6)))
              all_goals
                have hW6 : Below wr.heap.size wr w6 := ((hbr4.trans (Hbx.out.mono hbr4.size)).trans ((box_below w5 _ |> below_then hb5').mono (by have := Hbx.out.size; omega))).trans (hb6.mono (by have := Hbx.out.size; have := hb5'.size; simp; omega))
                have hsz5 : wr.heap.size ≤ w5.heap.size := by have := Hbx.out.size; have := hb5'.size; omega
                have hnv : PartV (fun b => (S b ∨ w.heap.size ≤ b) ∧ b ≠ gb') w6 (.iface 131 (.agg #[.int .i64 f, .slice (some ⟨g6, 0, none⟩) (rl.length + 1) cap6])) (.run f (rl ++ [⟨ek, et, ecmd⟩])) := by
                  refine ⟨_, rfl, rcs ++ [.int .i64 ek, .int .i64 et, .slice oA ecmd.length oc], ?_, ?_⟩
                  · have := (RowAt.of_own hown6).mono (T := fun b => (S b ∨ w.heap.size ≤ b) ∧ b ≠ gb') (fun b' _ hs => by simp at hs; have := hbr.size; exact ⟨.inr (by omega), by omega⟩)
                    simpa using this
                  · refine EntCells.append ((Hre.out).keepS (Same.of_below' hW6 _)) ⟨_, [], rfl, hi0, hi1, ?_, rfl⟩
                    have hq := (hov.mono (T := fun b => (S b ∨ w.heap.size ≤ b) ∧ b ≠ gb') (fun b' _ hs => by have := Hbx.out.size; have := hbr.size; exact ⟨.inr (by omega), by omega⟩)).keep (box_below w5 (.cells #[.int .i64 ek, .int .i64 et, .slice oA ecmd.length oc] 113))
                    exact hq.keep hb6
                have hpc6 := inv_set Hpc'.out Hn.out hn0 hW6 hnv
                have hown7 := ((own_keep Hown'.out hW6).stored (g := gb') (n - 1) (.iface 131 (.agg #[.int .i64 f, .slice (some ⟨g6, 0, none⟩) (rl.length + 1) cap6]))).1
                have hb7 : Below w.heap.size w (w6.setCell ⟨gb', n - 1, none⟩ (.iface 131 (.agg #[.int .i64 f, .slice (some ⟨g6, 0, none⟩) (rl.length + 1) cap6]))) := (hbr.trans (hW6.mono hbr.size)).setCell (by
                  obtain ⟨g1, c1, e1, e3, -⟩ := Hown'.out.form hn0
                  injection e1 with e1; injection e1 with e1; injection e1 with e1; simp; omega) _
                have Hown7 := Lib.hid hown7
                have Hpc6 := Lib.hid hpc6
                have Hb7 := Lib.hid hb7
                clear hown7 hpc6 hb7 hnv hW6 hown6 hg6 hov y0 y1 y2 y3 y4 y5 y6 z0 z1 z2 z3 z4 z5 z6 t0 t1 t2 t3 t4 t5 t6 hpc4 hpf4 c0 c1 c2
                go_wp2_with fail
                have hadd : g.adds (l.take (k + 1)) = Lg.mk gk.a gk.t gk.m (gk.rs.take (gk.rs.length - 1) ++ [(f, rl ++ [⟨ek, et, ecmd⟩])]) := by
                  rw [List.take_succ_eq_append_getElem hlt', Lg.adds_snoc, Hgk.out, He.out]
                  have hd : gk.rs.dropLast = gk.rs.take (gk.rs.length - 1) := by rw [List.dropLast_eq_take]
                  have hlast : gk.rs.getLast? = some (f, rl) := by rw [Hrs.out]; simp
                  unfold Lg.add addE
                  rw [hlast]
                  simp only []
                  rw [if_pos (by show et = headTerm rl; rw [← Htt'.out]; exact Hne.out), hd]
                have hap : (g.adds (l.take (k + 1))).parts = gk.parts.take (n - 1) ++ [.run f (rl ++ [⟨ek, et, ecmd⟩])] := by
                  have h1 := Hn.out
                  rw [Lg.parts_length] at h1
                  have h2 : 0 < gk.rs.length := by have h3 := congrArg List.length Hrs.out; simp at h3; omega
                  have h3 : n - 1 = (gk.rs.length - 1) + 1 := by omega
                  rw [hadd, h3, gk.parts_take]; simp [Lg.parts]
                have hlen6 : n = (g.adds (l.take (k + 1))).parts.length := by rw [hap]; have := Hn.out; simp; omega
                go_roundw
                case rel =>
                  have := with_next (S := S) Hg.out (by omega) hlt' He.out Hok.out hright (by rw [Hgk.out]; exact hterm') hlen6 Hown7.out (by rw [hap]; exact Hpc6.out) Hb7.out
                  rw [Hgk.out] at this
                  simpa using this
                case measure => simp [intOf]; omega
            · have hne : (et == gk.topTerm) = false := beq_eq_false_iff_ne.2 htq
              have Hne := Lib.hid htq
              clear htq
              go_wp2_with fail
              have hb5 := (box_below w4 (.cells #[.int .i64 f, .slice (some ⟨rb, ro, none⟩) rl.length rc] 131))
              refine (own_any _ ek et _ ecmd ((Hby.out.keep hbr4).keep hb5) (by omega)).mono ?_
              rintro e w5 ⟨ov, rfl, hov, hb5'⟩
              obtain ⟨oA, oc, rfl⟩ := hov.slice
              have Hov := Lib.hid hov
              obtain ⟨i0, hi, hz0, hz1, hz2⟩ := info_parts infoPart
              clear hov
              go_wp2_with (at_builtin; refine wpList_append_own_at _ rfl _ _ 123 rfl w.heap.size 128 i0 .nilIface 1 16 Tryz.underlying123 hi hz0 hz1 hz2 rfl (by decide) _ n vs' rfl ?ho ⟨w5.heap.size + 1, 0, none⟩ 1 1 [.iface 131 (.agg #[.int .i64 (gk.top + 1), .slice (some ⟨w5.heap.size, 0, none⟩) 1 1])] rfl rfl ?hn ?h1 ?hm ?h7 ?hB ?_)
              case hn => exact World.news_of_block (cs := #[_]) (t := 128) (fr := (0, 0)) (by have := blk_new (w5.alloc (.cells #[.int .i64 ek, .int .i64 et, .slice oA ecmd.length oc] 113)) (.cells #[.iface 131 (.agg #[.int .i64 (gk.top + 1), .slice (some ⟨w5.heap.size, 0, none⟩) 1 1])] 128); rwa [World.size_alloc] at this)
              case h1 => simp [Value.oneCell']
              case hm => simp [maxLen]; omega
              case h7 => omega
              case hB => simp; have := hbr.size; have := hbr4.size; have := hb5.size; have := hb5'.size; omega
              case ho => exact own_keep Hown'.out (below_alloc (below_alloc ((hbr4.trans (hb5.mono hbr4.size)).trans (hb5'.mono (by have := hb5.size; have := hbr4.size; omega))) _) _)
              intro v6 w6 hown6 hg6 _ hat6
              obtain ⟨g6, cap6, rfl, -, -⟩ := hown6.form (by omega)
              have hW5 : Below wr.heap.size wr ((w5.alloc (.cells #[.int .i64 ek, .int .i64 et, .slice oA ecmd.length oc] 113)).alloc (.cells #[.iface 131 (.agg #[.int .i64 (gk.top + 1), .slice (some ⟨w5.heap.size, 0, none⟩) 1 1])] 128)) :=
                below_alloc (below_alloc ((hbr4.trans (hb5.mono hbr4.size)).trans (hb5'.mono (by have := hb5.size; have := hbr4.size; omega))) _) _
              have hat6' : g6 = gb' ∨ g6 = ((w5.alloc (.cells #[.int .i64 ek, .int .i64 et, .slice oA ecmd.length oc] 113)).alloc (.cells #[.iface 131 (.agg #[.int .i64 (gk.top + 1), .slice (some ⟨w5.heap.size, 0, none⟩) 1 1])] 128)).heap.size := by
                simpa [Value.ownBlock] using hat6
              have hd1 : w6.cell? ⟨wr.heap.size, 1, none⟩ = some (.int .i64 et) := by
                have hx := cell_keep (below_alloc (below_alloc hb5' (.cells #[.int .i64 ek, .int .i64 et, .slice oA ecmd.length oc] 113)) (.cells #[.iface 131 (.agg #[.int .i64 (gk.top + 1), .slice (some ⟨w5.heap.size, 0, none⟩) 1 1])] 128)) (d1' (.cells #[.int .i64 f, .slice (some ⟨rb, ro, none⟩) rl.length rc] 131))
                rw [hg6.cell_far _ (block_lt hx) (by simp [Value.ownBlock]; omega)]
                exact hx
              have hb6 : Below w.heap.size w w6 := (hbr.trans (hW5.mono hbr.size)).grown hg6 (by have := hW5.size; have := hbr.size; omega) (fun k' hk' => by
                simp [Value.ownBlock] at hk'
                obtain ⟨g1, c1, e1, e3, -⟩ := Hown'.out.form hn0
                injection e1 with e1; injection e1 with e1; injection e1 with e1; omega)
              have hnv : PartV (wr.heap.size ≤ ·) ((w5.alloc (.cells #[.int .i64 ek, .int .i64 et, .slice oA ecmd.length oc] 113)).alloc (.cells #[.iface 131 (.agg #[.int .i64 (gk.top + 1), .slice (some ⟨w5.heap.size, 0, none⟩) 1 1])] 128)) (.iface 131 (.agg #[.int .i64 (gk.top + 1), .slice (some ⟨w5.heap.size, 0, none⟩) 1 1])) (.run (gk.top + 1) [⟨ek, et, ecmd⟩]) :=
                run_new (e := ⟨ek, et, ecmd⟩) (blk_alloc (blk_new w5 _) _) (by have := hbr4.size; have := hb5.size; have := hb5'.size; omega) hi0 hi1 ((Hov.out.mono (fun b' _ hs => by have := hbr4.size; have := hb5.size; omega)).keep (below_two _ _ _))
              have hpc6 := inv_push Hpc'.out hgb' hbr.size hW5 hnv hg6 hat6'
              have Hown6 := Lib.hid hown6
              have Hpc6 := Lib.hid hpc6
              have Hb6 := Lib.hid hb6
              clear hown6 hg6 hat6 hat6' hpc6 hnv hW5 d0' d1' d2' d0 d1 d2 hpc4 hpf4 c0 c1 c2 hb6
              go_wp2_with fail
              have hadd : g.adds (l.take (k + 1)) = Lg.mk gk.a gk.t gk.m (gk.rs ++ [(gk.top + 1, [⟨ek, et, ecmd⟩])]) := by
                rw [List.take_succ_eq_append_getElem hlt', Lg.adds_snoc, Hgk.out, He.out]
                unfold Lg.add addE
                rw [Hrs.out]
                simp only [List.getLast?_append, List.getLast?_singleton, Option.some_or]
                rw [if_neg (by show ¬ et = headTerm rl; rw [← Htt'.out]; exact Hne.out), show f + (rl.length : Int) = gk.top + 1 by have := Htop.out; omega]
              have hap : (g.adds (l.take (k + 1))).parts = gk.parts ++ [.run (gk.top + 1) [⟨ek, et, ecmd⟩]] := by rw [hadd]; simp [Lg.parts]
              go_roundw
              case rel =>
                have := with_next (S := S) (w6 := w6) Hg.out (by omega) hlt' He.out Hok.out hright (by rw [Hgk.out]; exact hterm') (n6 := n + 1) (by rw [hap]; simp; exact Hn.out) Hown6.out (by rw [hap]; exact Hpc6.out) Hb6.out
                rw [Hgk.out] at this
                simpa using this
              case measure => simp [intOf]; omega
    · obtain rfl : k = l.length := by omega
      have hfull : l.take l.length = l := List.take_of_length_le (Nat.le_refl _)
      rw [hfull] at Hok Hn Hpc'
      go_wp2_with fail
      go_ret2
      refine ⟨.inl ⟨Hok.out, _, rfl, ?_⟩, below_alloc hbr _⟩
      have h1 := blk_new wr (.cells #[.slice (some ⟨gb', 0, none⟩) n cap'] 125)
      refine ⟨_, _, vs', rfl, .inr hbr.size, (cells1 h1).1, ?_, ?_⟩
      · have hq := (RowAt.of_own Hown'.out).mono (T := fun b => S b ∨ w.heap.size ≤ b) (fun b' _ hs => .inr hs)
        rw [← Hn.out]
        exact hq.keep (box_below _ _)
      · exact (PartCells.mono (fun b' _ hs => hs.1) Hpc'.out).keepS (Same.of_below' (box_below _ _) _)
end Go.Proofs.YtahagecdebadfaaGreat

namespace Go.Proofs.YtahagecdebadfaaGreat
open Go.RowKit
attribute [local go_sem ↓] Go.wp_at_zero Go.wp_at_succ

theorem upto_ok {S : Nat → Prop} (p : Value) (g : Lg) (n : Int) (w : World) (h : LogAt S w p g.parts) (hg : g.Good) (hn1 : g.a ≤ n) (hn2 : n ≤ g.top) :
    Calls Tryz.prog 141 #[p, .int .i64 n] w fun e w' => ∃ q, e = .returned (.tuple #[q, .int .i64 0]) ∧ LogAt (fun b => S b ∨ w.heap.size ≤ b) w' q (g.upto n).parts ∧ Below w.heap.size w w' := by
  by_cases hn : n = g.a
  · subst hn
    refine (upto_floor p g w h hg).mono ?_
    rintro e w' ⟨q, rfl, hL, hb⟩
    refine ⟨q, rfl, ?_, hb⟩
    rw [Lg.upto_floor]
    exact hL.mono fun b _ h => .inr h
  · refine (upto_run p g n w h hg (by omega) hn2).mono ?_
    rintro e w' ⟨q, j, hj, h1, h2, rfl, hL, hb⟩
    refine ⟨q, rfl, ?_, hb⟩
    rw [← hg.cutAt hj h1 h2]
    exact hL

theorem Ents.tail {S : Nat → Prop} {w : World} {b o c : Nat} {l : List Ent} (h : Ents S w (.slice (some ⟨b, o, none⟩) l.length c) l) (k : Nat) (hk : k ≤ l.length) (hc : l.length ≤ c) (hc' : c ≤ maxLen) :
    Ents S w (.slice (some ⟨b, o + k * 3, none⟩) (l.length - k) (c - k)) (l.drop k) := by
  obtain ⟨cs, hr, he⟩ := h
  have h1 := hr.cut k (l.length - k) (c - k) (by omega) (by omega) (by omega)
  have e : ((cs.drop (k * 3)).take ((l.length - k) * 3)) = cs.drop (k * 3) := by
    apply List.take_of_length_le
    have := hr.1
    simp; omega
  rw [e] at h1
  refine ⟨cs.drop (k * 3), ?_, he.drop k⟩
  rw [List.length_drop]
  exact h1

theorem Ents.next {S : Nat → Prop} {w : World} {b o c : Nat} {e : Ent} {l : List Ent} (h : Ents S w (.slice (some ⟨b, o, none⟩) (e :: l).length c) (e :: l)) :
    Ents S w (.slice (if c = 1 then some ⟨b, o, none⟩ else some ⟨b, o + 3, none⟩) l.length (c - 1)) l := by
  obtain ⟨cs, hr, he⟩ := h
  obtain ⟨b', o', c', hv, hn, hc, hS, hlt, hcell⟩ := hr.form (by simp)
  injection hv with hv _ hv2
  injection hv with hv
  injection hv with e1 e2 _
  subst e1 e2 hv2
  by_cases h1 : c = 1
  · rw [if_pos h1]
    have : l = [] := by
      cases l with
      | nil => rfl
      | cons x xs => simp at hn; omega
    subst this h1
    exact ⟨[], ⟨by simp, .inr ⟨b, o, 0, rfl, Nat.le_refl _, Nat.zero_le _, hS, hlt, fun i u hu => by simp at hu⟩⟩, rfl⟩
  · rw [if_neg h1]
    have := Ents.tail ⟨cs, hr, he⟩ 1 (by simp) hn hc
    simpa using this

theorem below_five {w W : World} (h : Below w.heap.size w W) (x y z u v : Value) :
    Below w.heap.size w (((((W.setCell ⟨w.heap.size, 0, none⟩ x).setCell ⟨w.heap.size, 1, none⟩ y).setCell ⟨w.heap.size, 2, none⟩ z).setCell ⟨w.heap.size, 3, none⟩ u).setCell ⟨w.heap.size, 4, none⟩ v) :=
  ((((h.setCell (by simp) _).setCell (by simp) _).setCell (by simp) _).setCell (by simp) _).setCell (by simp) _

/-- What 'Join' answers. -/
def JoinPost (S : Nat → Prop) (g : Lg) (x : Jn) (e : Ending) (w' : World) : Prop :=
  ∃ q, e = .returned (.agg #[q, .bool x.yes, .int .i64 x.fin, .int .i64 x.from_, .int .i64 x.back]) ∧ (match x.log with | none => q = .pointer none | some es => LogAt S w' q (Lg.of g.a g.t g.m es).parts)

set_option maxRecDepth 100000 in
set_option maxHeartbeats 2000000 in
theorem join_own {S : Nat → Prop} (p : Value) (g : Lg) (at_ term : Int) (lv : Value) (l : List Ent) (w : World) (hS : ∀ b, S b → b < w.heap.size) (h : LogAt S w p g.parts) (hg : g.Good) (hl : Ents S w lv l) (h64 : in64 at_) (hll : l.length ≤ 140737488355328) :
    Calls Tryz.prog 132 #[p, .int .i64 at_, .int .i64 term, lv] w fun e w' => JoinPost (fun b => S b ∨ w.heap.size ≤ b) g (g.join at_ term l) e w' ∧ Below w.heap.size w w' := by
  obtain ⟨A, lc, rfl⟩ := hl.slice
  have Hl := Lib.hid hl
  have Hp := Lib.hid h
  obtain ⟨b, sv, vs, rfl, -⟩ := h
  have b1 := hg.a0
  have b2 := hg.a1
  have b3 := hg.len
  unfold in64 at h64
  clear hl
  obtain ⟨sk, hsk⟩ : ∃ sk, wrap64 (g.a - at_) = sk := ⟨_, rfl⟩
  go_enter Tryz.func132, Tryz.ntmps132
  go_upto_block 0 with (go_at_call 91; refine (ground_any _ g _ (by exact Hp.out.keep (box_below w _))).mono ?_; rintro e w1 ⟨rfl, hb⟩)
  obtain ⟨w0, hw0⟩ : ∃ w0, w.alloc (.cells #[.pointer none, .bool false, .int .i64 0, .int .i64 0, .int .i64 0] 169) = w0 := ⟨_, rfl⟩
  have hbk : w0.heap[w.heap.size]? = some (.cells #[.pointer none, .bool false, .int .i64 0, .int .i64 0, .int .i64 0] 169 (0, 0)) := by rw [← hw0]; exact blk_new w _
  have hbw : Below w.heap.size w w0 := by rw [← hw0]; exact box_below w _
  have hsz : w0.heap.size = w.heap.size + 1 := by rw [← hw0]; simp
  rw [hw0] at hb
  rw [hsk]
  have Hsk := Lib.hid hsk
  clear hsk
  have Hw0 := Lib.hid hw0
  clear hw0
  have Hbk := Lib.hid hbk
  have Hsz := Lib.hid hsz
  clear hbk hsz
  go_cut [1, 3] (fun s1 s3 wx => ∃ (a0 : Int) (l0 : List Ent) (A0 : Option Addr) (c0 : Nat), s1 = .int .i64 a0 ∧ s3 = .slice A0 l0.length c0 ∧ Ents S w (.slice A0 l0.length c0) l0 ∧ g.a ≤ a0 ∧ a0 ≤ g.top ∧ g.join at_ term l = g.joinGo a0 l0 ∧ l0.length ≤ l.length ∧ Below w0.heap.size w0 wx)
  case first =>
    have Ht := Lib.hid fun n => term_any _ g n w1 (Hp.out.keep (below_then hbw hb)) hg
    by_cases c1 : g.a ≤ at_
    · by_cases hT : g.termAt at_ < 0 ∨ g.termAt at_ ≠ term
      · have hJ : g.join at_ term l = ⟨none, false, 0, 0, g.back at_⟩ := by unfold Lg.join; rw [if_pos c1, if_pos hT]
        have Hb := Lib.hid fun w2 (hb2 : Below w1.heap.size w1 w2) => back_any _ g at_ w2 (Hp.out.keep (below_then (below_then hbw hb) hb2)) hg
        have HJ := Lib.hid hJ
        clear hJ
        have hT' : g.termAt at_ < 0 ∨ (0 ≤ g.termAt at_ ∧ g.termAt at_ ≠ term) := by omega
        clear hT
        have hT3 : 0 ≤ g.termAt at_ → (g.termAt at_ != term) = true := fun h => by simp; omega
        rcases hT' with hT | ⟨hT1, hT2⟩
        rotate_left
        have hT4 := hT3 hT1
        rotate_left
        all_goals
          go_wp2_with (first | (go_at_call 77; refine (Ht.out _).mono ?_; rintro e w2 ⟨rfl, hb2⟩) | (go_at_call 140; refine (Hb.out _ hb2).mono ?_; rintro e w3 ⟨rfl, hb3⟩; obtain ⟨k0, k1, k2, k3, k4, f0, f1, f2, f3, f4⟩ := cells5 (blk_keep hb3 (blk_keep hb2 (blk_keep hb Hbk.out)))))
          refine bodyPost_ret (v := .agg #[.pointer none, .bool false, .int .i64 0, .int .i64 0, .int .i64 (g.back at_)]) (by simp [results, Tryz.results132, go_sem, k0, k1, k2, k3, k4]) rfl ⟨⟨_, by rw [HJ.out], by rw [HJ.out]⟩, ?_⟩
          exact below_five (below_then (below_then (below_then hbw hb) hb2) hb3) _ _ _ _ _
      · have hT1 : 0 ≤ g.termAt at_ := by omega
        have hT2 : g.termAt at_ = term := by omega
        have hin := Lg.termAt_in hT1
        have hJ : g.join at_ term l = g.joinGo at_ l := by unfold Lg.join; rw [if_pos c1, if_neg hT]
        have HJ := Lib.hid hJ
        clear hJ
        clear hT
        subst hT2
        go_wp2_with (go_at_call 77; refine (Ht.out _).mono ?_; rintro e w2 ⟨rfl, hb2⟩)
        go_meet
        exact ⟨at_, l, A, lc, rfl, rfl, Hl.out, c1, hin.2, HJ.out, Nat.le_refl _, below_then hb hb2⟩
    · by_cases c3 : (l.length : Int) ≤ g.a - at_
      · have hJ : g.join at_ term l = ⟨none, false, 0, 0, g.a⟩ := by unfold Lg.join; rw [if_neg c1, if_pos c3]
        have HJ := Lib.hid hJ
        clear hJ
        obtain ⟨k0, k1, k2, k3, k4, f0, f1, f2, f3, f4⟩ := cells5 (blk_keep hb Hbk.out)
        have hsk2 : sk < 0 ∨ (0 ≤ sk ∧ (l.length : Int) ≤ sk) := by have := Hsk.out; unfold wrap64 at this; omega
        rcases hsk2 with hsk2 | ⟨hsk2, hsk3⟩
        all_goals
          go_wp2_with fail
          refine bodyPost_ret (v := .agg #[.pointer none, .bool false, .int .i64 0, .int .i64 0, .int .i64 (g.a)]) (by simp [results, Tryz.results132, go_sem, k0, k1, k2, k3, k4]) rfl ⟨⟨_, by rw [HJ.out], by rw [HJ.out]⟩, ?_⟩
          exact below_five (below_then hbw hb) _ _ _ _ _
      · have hsk' : sk = g.a - at_ := by have := Hsk.out; unfold wrap64 at this; omega
        have hJ : g.join at_ term l = g.joinGo g.a (l.drop sk.toNat) := by
          unfold Lg.join; rw [if_neg c1, if_neg c3, hsk']
        have HJ := Lib.hid hJ
        have hsk0 : 0 ≤ sk := by omega
        obtain ⟨cs, hrow, hcs⟩ := Hl.out
        obtain ⟨rb, ro, rc, he, hrn, hrc, -⟩ := hrow.form (by omega)
        injection he with he1 _ he2
        subst he1 he2
        have d1 : sk < (l.length : Int) := by omega
        have d2 : (l.length : Int) ≤ (lc : Int) := by omega
        have d3 : sk.toNat ≤ l.length := by omega
        have d4 : l.length ≤ lc := by omega
        clear hJ hsk' hrow
        go_wp2_with fail
        go_region
        all_goals
          go_wp2_with fail
          go_meet
          refine ⟨g.a, l.drop sk.toNat, some ⟨rb, ro + sk.toNat * 3, none⟩, lc - sk.toNat, rfl, ?_, ?_, Int.le_refl _, ?_, HJ.out, ?_, below_drewN hb 1⟩
          · simp
          · rw [List.length_drop]; exact Hl.out.tail sk.toNat d3 d4 hrc
          · unfold Lg.top; omega
          · simp
  case rest =>
    obtain ⟨a0, l0, A0, c0, rfl, rfl, hl0, ha1, ha2, hj, hle, hbx⟩ := hcut
    have HJ := Lib.hid hj
    have Hl0 := Lib.hid hl0
    clear hj hl0
    have htop : g.top ≤ 1099511631872 := by unfold Lg.top; omega
    go_upto_block 1 with fail
    go_cut [1, 3] (fun s1 s3 wy => ∃ (k : Nat) (l1 : List Ent) (A1 : Option Addr) (c1 : Nat), s1 = .int .i64 (a0 + k) ∧ s3 = .slice A1 l1.length c1 ∧ Ents S w (.slice A1 l1.length c1) l1 ∧ l0.drop k = l1 ∧ k ≤ l0.length ∧ a0 + k ≤ g.top ∧ skipN g a0 l0 = k ∧ Below w0.heap.size w0 wy)
    case first =>
      go_wp2_with fail
      go_loopw [1, 3] (fun s1 s3 wr => ∃ (k : Nat) (l1 : List Ent) (A1 : Option Addr) (c1 : Nat), s1 = .int .i64 (a0 + k) ∧ s3 = .slice A1 l1.length c1 ∧ Ents S w (.slice A1 l1.length c1) l1 ∧ l0.drop k = l1 ∧ k ≤ l0.length ∧ a0 + k ≤ g.top ∧ skipN g a0 l0 = k + skipN g (a0 + k) l1 ∧ Below w0.heap.size w0 wr)
        (fun s1 _ _ => l0.length - (intOf s1 - a0).toNat)
      case atStart => exact ⟨0, l0, A0, c0, by simp, rfl, Hl0.out, by simp, by omega, by omega, by simp, hbx⟩
      case round =>
        obtain ⟨k, l1, A1, c1, rfl, rfl, hl1, hd, hk, hkt, hsn, hbr⟩ := hrel
        have Hd := Lib.hid hd
        have Hsn := Lib.hid hsn
        have Hl1 := Lib.hid hl1
        clear hd hsn hl1
        cases l1 with
        | nil =>
          have hz : ([] : List Ent).length = 0 := rfl
          rw [hz]
          go_wp2_with fail
          go_quiet (fail)
          go_wp2_with fail
          go_meet
          exact ⟨k, [], A1, c1, rfl, rfl, Hl1.out, Hd.out, hk, hkt, by rw [Hsn.out]; simp [skipN], below_drewN hbr nq⟩
        | cons e l2 =>
          obtain ⟨cs, hrow, hec⟩ := Hl1.out
          obtain ⟨rb, ro, rc, he0, hrn, hrc, -, hrb, hrcell⟩ := hrow.form (by simp)
          injection he0 with he1 _ he2
          subst he1 he2
          obtain ⟨cv, hc0, hc1, hc2, -⟩ := hec.at 0 (by simp)
          have hterm : wr.cell? ⟨rb, ro + 1, none⟩ = some (.int .i64 e.term) := by
            have := cell_keep (below_then hbw hbr) (hrcell _ _ hc1)
            simpa using this
          obtain ⟨n1, hn1, hn2⟩ : ∃ n1, (e :: l2).length = n1 ∧ l2.length + 1 = n1 := ⟨_, rfl, rfl⟩
          rw [hn1]
          have i0 : 0 < n1 := by omega
          have i1 : (0 : Int) < (n1 : Int) := by omega
          have i2 : (1 : Int) ≤ (n1 : Int) := by omega
          have i3 : (n1 : Int) ≤ (c1 : Int) := by simp at hrn; omega
          have Hrc := Lib.hid hrc
          have hkl : k < l0.length := by
            have := congrArg List.length Hd.out
            simp at this; omega
          have Hn1 := Lib.hid hn1
          have Hn2 := Lib.hid hn2
          clear hc0 hc1 hc2 hrcell hec hrow hn1 hn2 hrc hrn
          by_cases ht : 0 ≤ e.term
          · obtain ⟨tt, htt⟩ : ∃ tt, g.termAt (a0 + k + 1) = tt := ⟨_, rfl⟩
            have Ht := Lib.hid fun W (hb : Below w0.heap.size w0 W) => htt ▸ term_any _ g (a0 + k + 1) W (Hp.out.keep (below_then hbw hb)) hg
            have Htt := Lib.hid htt
            clear htt
            have e1 : IntKind.i64.wrap (a0 + ↑k + 1) = a0 + ↑k + 1 := IntWalk.i64_in _ (by omega)
            by_cases heq : tt = e.term
            · subst heq
              go_wp2_with fail
              go_region_held3 (fun w' => w'.cell? ⟨rb, ro + 1, none⟩ = some (.int .i64 e.term)) (go_keep) ((go_at_call 77; refine (Ht.out _ (by exact hbr.drew)).mono ?_; rintro _ w3 ⟨rfl, hb3⟩; have z0 : w3.cell? ⟨rb, ro + 1, none⟩ = some (.int .i64 e.term) := cell_keep hb3 hterm))
              go_wp2_with fail
              go_region
              all_goals
                go_wp2_with fail
                go_roundw
                case rel =>
                  have hl2 := Hl1.out
                  have hn : n1 - 1 = l2.length := by have := Hn2.out; omega
                  refine ⟨k + 1, l2, if c1 = 1 then some ⟨rb, ro, none⟩ else some ⟨rb, ro + 3, none⟩, c1 - 1, ?_, ?_, ?_, ?_, hkl, ?_, ?_, ?_⟩
                  · simp; omega
                  · rw [← hn]
                  · exact hl2.next
                  · rw [← List.drop_drop, Hd.out]; rfl
                  · have := Lg.termAt_in (g := g) (n := a0 + k + 1) (by rw [Htt.out]; exact ht)
                    omega
                  · rw [Hsn.out]
                    simp only [skipN]
                    rw [if_pos ⟨ht, Htt.out⟩]
                    have : a0 + ((k + 1 : Nat) : Int) = a0 + k + 1 := by omega
                    rw [this]; omega
                  · exact below_drewN (below_then (below_drewN hbr 1) hb3) 1
                case measure => simp [intOf]; omega
            · have hbe : (tt == e.term) = false := by simpa using heq
              go_wp2_with fail
              go_region_held3 (fun w' => w'.cell? ⟨rb, ro + 1, none⟩ = some (.int .i64 e.term)) (go_keep) ((go_at_call 77; refine (Ht.out _ (by exact hbr.drew)).mono ?_; rintro _ w3 ⟨rfl, hb3⟩; have z0 : w3.cell? ⟨rb, ro + 1, none⟩ = some (.int .i64 e.term) := cell_keep hb3 hterm))
              all_goals
                go_wp2_with fail
                go_meet
                refine ⟨k, e :: l2, some ⟨rb, ro, none⟩, c1, rfl, by rw [Hn1.out], Hl1.out, Hd.out, hk, hkt, ?_, below_then (below_drewN hbr 1) hb3⟩
                rw [Hsn.out]
                simp only [skipN]
                rw [if_neg (by rw [Htt.out]; omega)]; rfl
          · have ht' : e.term < 0 := by omega
            have ht2 : decide (0 ≤ e.term) = false := by simp; omega
            go_wp2_with fail
            go_quiet (fail)
            go_wp2_with fail
            go_meet
            refine ⟨k, e :: l2, some ⟨rb, ro, none⟩, c1, rfl, by rw [Hn1.out], Hl1.out, Hd.out, hk, hkt, ?_, below_drewN hbr nq⟩
            rw [Hsn.out]
            simp only [skipN]
            rw [if_neg (by omega)]; rfl
    case rest =>
      obtain ⟨k, l1, A1, c1, rfl, rfl, hl1, hd, hk, hkt, hsn, hby⟩ := hcut
      have hlen : l1.length = l0.length - k := by rw [← hd]; simp
      have Hl1 := Lib.hid hl1
      have hG : g.joinGo a0 l0 = if l0.length ≤ k then ⟨some g.ents, true, a0 + l0.length, 0, 0⟩
          else if okSeq (g.termAt (a0 + k)) l1 = true ∧ a0 + l0.length - g.a ≤ 4096 then
            ⟨some (g.ents.take (a0 + k - g.a).toNat ++ l1), true, a0 + l0.length, a0 + k + 1, 0⟩
          else ⟨none, false, 0, 0, a0 + k⟩ := by
        unfold Lg.joinGo; simp only [hsn, hd]
      have HG := Lib.hid hG
      have Hd := Lib.hid hd
      clear hl1 hG hd hsn
      obtain ⟨n1, hn1⟩ : ∃ n1, l1.length = n1 := ⟨_, rfl⟩
      rw [hn1]
      rw [hn1] at hlen
      have Hn1 := Lib.hid hn1
      clear hn1
      have Hg := Lib.hid hg
      obtain ⟨k0, k1, k2, k3, k4, f0, f1, f2, f3, f4⟩ := cells5 (blk_keep hby Hbk.out)
      by_cases hz : n1 = 0
      · have hlk : l0.length ≤ k := by omega
        clear hlen
        subst hz
        have hx : g.join at_ term l = ⟨some g.ents, true, a0 + l0.length, 0, 0⟩ := by rw [HJ.out, HG.out, if_pos hlk]
        have HX := Lib.hid hx
        clear hx
        go_wp2_with fail
        refine bodyPost_ret (v := .agg #[.pointer (some ⟨b, 0, none⟩), .bool true, .int .i64 (a0 + l0.length), .int .i64 0, .int .i64 0]) (by simp [results, Tryz.results132, go_sem, k0, k1, k2, k3, k4]) rfl ⟨⟨_, by rw [HX.out], ?_⟩, ?_⟩
        · rw [HX.out]
          show LogAt _ _ _ (Lg.of g.a g.t g.m g.ents).parts
          rw [← Hg.out.eq_of]
          exact ((Hp.out.keep (below_five (below_then hbw hby) _ _ _ _ _))).mono fun b _ h => .inl h
        · exact below_five (below_then hbw hby) _ _ _ _ _
      · have hk1 : ¬ l0.length ≤ k := by omega
        have Hu := Lib.hid (upto_ok _ g (a0 + k) wc (Hp.out.keep (below_then hbw hby)) hg (by omega) hkt)
        obtain ⟨u1, u2, u3, u4, u5, u6⟩ := hg.upto (a0 + k)
        rw [Lg.Good.uptoTerm (by omega) hkt] at u3
        have ul : (g.upto (a0 + k)).ents.length = (a0 + k - g.a).toNat := by
          rw [u2]; unfold Lg.top at hkt; simp; omega
        have i1 : (0 : Int) < (n1 : Int) := by omega
        have i2 : 0 < n1 := by omega
        have Hlen := Lib.hid hlen
        clear hlen
        have U1 := Lib.hid u1
        have U3 := Lib.hid u3
        have Ul := Lib.hid ul
        clear u1 u2 u3 u4 u5 u6 ul
        go_wp2_with (go_at_call 141; refine Hu.out.mono ?_; rintro _ w3 ⟨q, rfl, hq, hb3⟩; obtain ⟨qb, qs, qv, rfl, hqr⟩ := id hq; have Hq := Lib.hid hq; clear hq hqr)
        have hEl := Lib.hid (((Hl1.out.keep (below_then (below_then hbw hby) hb3)).mono fun b _ h => Or.inl h : Ents (fun b => S b ∨ wc.heap.size ≤ b) w3 (.slice A1 l1.length c1) l1))
        rw [Hn1.out] at hEl
        have hwc := (below_then hbw hby).size
        have hfit : a0 + l0.length - g.a ≤ 4096 → (g.upto (a0 + k)).ents.length + l1.length ≤ 4096 := fun h => by rw [Ul.out, Hn1.out]; have := Hlen.out; omega
        by_cases hroom : a0 + l0.length - g.a ≤ 4096
        · have hfit := hfit hroom
          refine (with_room (S := fun b => S b ∨ wc.heap.size ≤ b) (.pointer (some ⟨qb, 0, none⟩)) (g.upto (a0 + k)) (.slice A1 n1 c1) l1 w3 Hq.out U1.out hEl.out hfit).mono ?_
          rintro _ w4 ⟨hw | ⟨hw, rfl⟩, hb4⟩
          · obtain ⟨hok, q', rfl, hq'⟩ := hw
            rw [U3.out] at hok
            have hx : g.join at_ term l = ⟨some (g.ents.take (a0 + k - g.a).toNat ++ l1), true, a0 + l0.length, a0 + k + 1, 0⟩ := by rw [HJ.out, HG.out, if_neg hk1, if_pos ⟨hok, hroom⟩]
            have HX := Lib.hid hx
            obtain ⟨qb', qs', qv', rfl, hqr'⟩ := id hq'
            have Hq' := Lib.hid hq'
            obtain ⟨k0, k1, k2, k3, k4, f0, f1, f2, f3, f4⟩ := cells5 (blk_keep hb4 (blk_keep hb3 (blk_keep hby Hbk.out)))
            clear hx hok hq' hqr'
            go_wp2_with fail
            refine bodyPost_ret (v := .agg #[.pointer (some ⟨qb', 0, none⟩), .bool true, .int .i64 (a0 + l0.length), .int .i64 (a0 + k + 1), .int .i64 0]) (by simp [results, Tryz.results132, go_sem, k0, k1, k2, k3, k4]) rfl ⟨⟨_, by rw [HX.out], ?_⟩, ?_⟩
            · rw [HX.out]
              show LogAt _ _ _ (Lg.of g.a g.t g.m _).parts
              rw [← Lg.of_adds]
              have hsz := Hsz.out
              have hy := hby.size
              have h3 := hb3.size
              have hn : ¬ ((S w.heap.size ∨ wc.heap.size ≤ w.heap.size) ∨ w3.heap.size ≤ w.heap.size) := by
                rintro ((h | h) | h)
                · have := hS _ h; omega
                · omega
                · omega
              have hsm := ((((((Same.refl (fun b => (S b ∨ wc.heap.size ≤ b) ∨ w3.heap.size ≤ b) w4).setCell (p := ⟨w.heap.size, 0, none⟩) hn (.pointer (some ⟨qb', 0, none⟩))).setCell (p := ⟨w.heap.size, 1, none⟩) hn (.bool true)).setCell (p := ⟨w.heap.size, 2, none⟩) hn (.int .i64 (a0 + l0.length))).setCell (p := ⟨w.heap.size, 3, none⟩) hn (.int .i64 (a0 + k + 1))).setCell (p := ⟨w.heap.size, 4, none⟩) hn (.int .i64 0))
              exact (Hq'.out.keepS hsm).mono fun b _ h => by
                rcases h with (h | h) | h
                · exact .inl h
                · exact .inr (by omega)
                · exact .inr (by omega)
            · exact below_five (below_then (below_then (below_then hbw hby) hb3) hb4) _ _ _ _ _
          · rw [U3.out] at hw
            have hx : g.join at_ term l = ⟨none, false, 0, 0, a0 + k⟩ := by rw [HJ.out, HG.out, if_neg hk1, if_neg (by rw [hw]; simp)]
            have HX := Lib.hid hx
            obtain ⟨k0, k1, k2, k3, k4, f0, f1, f2, f3, f4⟩ := cells5 (blk_keep hb4 (blk_keep hb3 (blk_keep hby Hbk.out)))
            clear hx hw
            go_wp2_with fail
            refine bodyPost_ret (v := .agg #[.pointer none, .bool false, .int .i64 0, .int .i64 0, .int .i64 (a0 + k)]) (by simp [results, Tryz.results132, go_sem, k0, k1, k2, k3, k4]) rfl ⟨⟨_, by rw [HX.out], by rw [HX.out]⟩, ?_⟩
            exact below_five (below_then (below_then (below_then hbw hby) hb3) hb4) _ _ _ _ _
        · refine (with_full (S := fun b => S b ∨ wc.heap.size ≤ b) (.pointer (some ⟨qb, 0, none⟩)) (g.upto (a0 + k)) A1 n1 c1 w3 Hq.out U1.out (by rw [Ul.out]; have := Hlen.out; omega) (by have := Hlen.out; omega)).mono ?_
          rintro _ w4 ⟨rfl, hb4⟩
          have hx : g.join at_ term l = ⟨none, false, 0, 0, a0 + k⟩ := by rw [HJ.out, HG.out, if_neg hk1, if_neg (fun h => hroom h.2)]
          have HX := Lib.hid hx
          obtain ⟨k0, k1, k2, k3, k4, f0, f1, f2, f3, f4⟩ := cells5 (blk_keep hb4 (blk_keep hb3 (blk_keep hby Hbk.out)))
          clear hx
          go_wp2_with fail
          refine bodyPost_ret (v := .agg #[.pointer none, .bool false, .int .i64 0, .int .i64 0, .int .i64 (a0 + k)]) (by simp [results, Tryz.results132, go_sem, k0, k1, k2, k3, k4]) rfl ⟨⟨_, by rw [HX.out], by rw [HX.out]⟩, ?_⟩
          exact below_five (below_then (below_then (below_then hbw hby) hb3) hb4) _ _ _ _ _
theorem join_any {S : Nat → Prop} (p : Value) (g : Lg) (at_ term : Int) (lv : Value) (l : List Ent) (w : World) (h : LogAt S w p g.parts) (hg : g.Good) (hl : Ents S w lv l) (h64 : in64 at_) (hll : l.length ≤ 140737488355328) :
    Calls Tryz.prog 132 #[p, .int .i64 at_, .int .i64 term, lv] w fun e w' => JoinPost (fun b => S b ∨ w.heap.size ≤ b) g (g.join at_ term l) e w' ∧ Below w.heap.size w w' := by
  refine (join_own (S := fun b => S b ∧ b < w.heap.size) p g at_ term lv l w (fun b h => h.2) (h.mono fun b h1 h2 => ⟨h2, h1⟩) hg (hl.mono fun b h1 h2 => ⟨h2, h1⟩) h64 hll).mono ?_
  rintro e w' ⟨⟨q, he, hq⟩, hb⟩
  refine ⟨⟨q, he, ?_⟩, hb⟩
  cases hx : (g.join at_ term l).log with
  | none => rw [hx] at hq; exact hq
  | some es =>
    rw [hx] at hq
    exact hq.mono fun b _ h => h.imp (·.1) id
end Go.Proofs.YtahagecdebadfaaGreat

namespace Go.Proofs.YtahagecdebadfaaGreat
open Go.RowKit
attribute [local go_sem ↓] Go.wp_at_zero Go.wp_at_succ

/-- Whether a log can be. -/
def logB (a t m : Int) (l : List Ent) : Bool := newB a t m && okSeq t l && decide (l.length ≤ 4096)
theorem newB_floor {a t m : Int} (h : newB a t m = true) : FloorOk a t m := by
  simp [newB, mayB, maskB] at h
  exact ⟨by omega, by omega, by omega, by omega, by omega, by omega⟩

/-- Entries of terms. -/
def termE (t : Int) : Ent := ⟨1, t, []⟩
def termCells (ts : List Int) : List Value := ts.flatMap fun t => [.int .i64 1, .int .i64 t, .slice none 0 0]
theorem termCells_ents (S : Nat → Prop) (w : World) : ∀ (ts : List Int), (∀ t ∈ ts, in64 t) → EntCells S w (ts.map termE) (termCells ts)
  | [], _ => rfl
  | t :: ts, h => ⟨.slice none 0 0, _, rfl, ⟨by simp [termE], by simp [termE]⟩, h t (by simp), ⟨rfl, .inl ⟨rfl, .inl rfl⟩⟩, termCells_ents S w ts (fun x hx => h x (by simp [hx]))⟩
theorem termCells_take (ts : List Int) (k : Nat) (h : k < ts.length) : termCells (ts.take (k + 1)) = termCells (ts.take k) ++ [.int .i64 1, .int .i64 ts[k], .slice none 0 0] := by
  simp only [termCells]
  rw [List.take_succ_eq_append_getElem h, List.flatMap_append]
  rfl

end Go.Proofs.YtahagecdebadfaaGreat

namespace Go.Proofs.YtahagecdebadfaaGreat
open Go.RowKit Go.Shelf
attribute [local go_sem] Oper.semAt_some

/-- Where runs begin, and their terms. -/
def runsOf (rs : List (Int × List Ent)) : List (Int × Int) := rs.map fun r => (r.1, headTerm r.2)
theorem runsOf_take (rs : List (Int × List Ent)) (k : Nat) (h : k < rs.length) : runsOf (rs.take (k + 1)) = runsOf (rs.take k) ++ [(rs[k].1, headTerm rs[k].2)] := by
  simp only [runsOf]
  rw [List.take_succ_eq_append_getElem h, List.map_append]
  rfl
theorem runsOf_length (rs : List (Int × List Ent)) : (runsOf rs).length = rs.length := by simp [runsOf]

theorem grown_alloc_drew (w : World) (o : Obj) : w.grownBy (w.alloc o).drew none := by
  have h := World.grownBy_alloc w o none
  exact ⟨h.os, h.tape, h.output, h.size, h.block⟩

theorem grown_alloc_drewN (w : World) (o : Obj) (n : Nat) : w.grownBy ((w.alloc o).drewN n) none := by
  have h := World.grownBy_alloc w o none
  exact ⟨h.os, h.tape, h.output, h.size, h.block⟩

end Go.Proofs.YtahagecdebadfaaGreat

namespace Go.Proofs.YtahagecdebadfaaGreat
open Go.RowKit Go.Shelf
attribute [local go_sem] Oper.semAt_some

/-- Cells of a list of runs. -/
def runCells (l : List (Int × Int)) : List Value := l.flatMap fun x => [.int .i64 x.1, .int .i64 x.2]
theorem runCells_snoc (l : List (Int × Int)) (x : Int × Int) : runCells (l ++ [x]) = runCells l ++ [.int .i64 x.1, .int .i64 x.2] := by simp [runCells]

end Go.Proofs.YtahagecdebadfaaGreat

namespace Go.Proofs.YtahagecdebadfaaGreat
open Go.RowKit
attribute [local go_sem ↓] Go.wp_at_zero Go.wp_at_succ

theorem five_new (w W : World) (t : TypeId) (x y z u v : Value) (hW : w.alloc (.cells #[x, y, z, u, v] t) = W) :
    (W.cell? ⟨w.heap.size, 0, none⟩ = some x ∧ W.cell? ⟨w.heap.size, 1, none⟩ = some y ∧ W.cell? ⟨w.heap.size, 2, none⟩ = some z ∧ W.cell? ⟨w.heap.size, 3, none⟩ = some u ∧ W.cell? ⟨w.heap.size, 4, none⟩ = some v) ∧ Below w.heap.size w W := by
  subst hW
  obtain ⟨h0, h1, h2, h3, h4, -⟩ := cells5 (blk_new w (.cells #[x, y, z, u, v] t))
  exact ⟨⟨h0, h1, h2, h3, h4⟩, box_below w _⟩

def knownG : Lg := Lg.of 0 0 7 ([1, 1, 2, 2].map termE)
theorem knownG_good : knownG.Good := ((newB_floor (a := 0) (t := 0) (m := 7) rfl).of (es := [1, 1, 2, 2].map termE) rfl (by simp)).1
theorem knownG_a : (knownG.a, knownG.t, knownG.m) = (0, 0, 7) := rfl
theorem knownG_join1 : knownG.join 4 3 [] = ⟨none, false, 0, 0, 2⟩ := rfl
theorem knownG_join2 : knownG.join 2 1 ([3].map termE) = ⟨some ([1, 1, 3].map termE), true, 3, 3, 0⟩ := rfl
theorem knownG_join3 : knownG.join 9 9 [] = ⟨none, false, 0, 0, 4⟩ := rfl
theorem knownG_runs : runsOf knownG.rs = [(1, 1), (3, 2)] := rfl

end Go.Proofs.YtahagecdebadfaaGreat
