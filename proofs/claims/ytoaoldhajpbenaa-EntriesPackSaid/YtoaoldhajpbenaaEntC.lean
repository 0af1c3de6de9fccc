/- Entries, parts and logs in memory; 'last', 'find' and their like. No statement is proved here. -/
import Derived.Test.YtoaoldhajpbenaaEntB
namespace Go.Proofs.Ytoaoldhajpbenaa
open Go.RowKit

/-- The cells of entries. -/
def EntCells (S : Nat → Prop) (w : World) : List Ent → List Value → Prop
  | [], cs => cs = []
  | e :: es, cs => ∃ v cs', cs = .int .i64 e.kind :: .int .i64 e.term :: v :: cs' ∧ in64 e.kind ∧ in64 e.term ∧ Bytes S w v e.cmd ∧ EntCells S w es cs'
def Ents (S : Nat → Prop) (w : World) (v : Value) (es : List Ent) : Prop := ∃ cs, RowAt S w v es.length 3 cs ∧ EntCells S w es cs

theorem EntCells.keepS {S : Nat → Prop} {w w' : World} (hs : Same S w w') : ∀ {es : List Ent} {cs : List Value}, EntCells S w es cs → EntCells S w' es cs
  | [], _, h => h
  | _ :: _, _, ⟨v, cs', hc, h1, h2, hb, hr⟩ => ⟨v, cs', hc, h1, h2, hb.keepS hs, EntCells.keepS hs hr⟩
theorem EntCells.mono {S T : Nat → Prop} {w : World} (hT : ∀ b, b < w.heap.size → S b → T b) : ∀ {es : List Ent} {cs : List Value}, EntCells S w es cs → EntCells T w es cs
  | [], _, h => h
  | _ :: _, _, ⟨v, cs', hc, h1, h2, hb, hr⟩ => ⟨v, cs', hc, h1, h2, hb.mono hT, EntCells.mono hT hr⟩
theorem EntCells.length {S : Nat → Prop} {w : World} : ∀ {es : List Ent} {cs : List Value}, EntCells S w es cs → cs.length = es.length * 3
  | [], _, h => by cases h; rfl
  | _ :: es, _, ⟨v, cs', hc, _, _, _, hr⟩ => by have := EntCells.length hr; subst hc; simp; omega
theorem EntCells.append {S : Nat → Prop} {w : World} : ∀ {es fs : List Ent} {cs ds : List Value}, EntCells S w es cs → EntCells S w fs ds → EntCells S w (es ++ fs) (cs ++ ds)
  | [], _, _, _, h, k => by cases h; exact k
  | _ :: _, _, _, _, ⟨v, cs', hc, h1, h2, hb, hr⟩, k => ⟨v, cs' ++ _, by subst hc; rfl, h1, h2, hb, EntCells.append hr k⟩
/-- The cells of one entry. -/
theorem EntCells.at {S : Nat → Prop} {w : World} : ∀ {es : List Ent} {cs : List Value}, EntCells S w es cs → ∀ i (h : i < es.length),
    ∃ v, cs[i * 3]? = some (.int .i64 es[i].kind) ∧ cs[i * 3 + 1]? = some (.int .i64 es[i].term) ∧ cs[i * 3 + 2]? = some v ∧ in64 es[i].kind ∧ in64 es[i].term ∧ Bytes S w v es[i].cmd
  | [], _, _, i, h => by simp at h
  | e :: es, _, ⟨v, cs', hc, h1, h2, hb, hr⟩, 0, h => ⟨v, by simp [hc], by simp [hc], by simp [hc], h1, h2, hb⟩
  | e :: es, _, ⟨v, cs', hc, h1, h2, hb, hr⟩, i + 1, h => by
    obtain ⟨u, ha, hb', hc', hd⟩ := EntCells.at hr i (by simpa using h)
    refine ⟨u, ?_, ?_, ?_, by simpa using hd⟩
    · rw [hc, show (i + 1) * 3 = i * 3 + 3 by omega]; simpa using ha
    · rw [hc, show (i + 1) * 3 + 1 = i * 3 + 1 + 3 by omega]; simpa using hb'
    · rw [hc, show (i + 1) * 3 + 2 = i * 3 + 2 + 3 by omega]; simpa using hc'
theorem EntCells.drop {S : Nat → Prop} {w : World} : ∀ {es : List Ent} {cs : List Value} (k : Nat), EntCells S w es cs → EntCells S w (es.drop k) (cs.drop (k * 3))
  | _, _, 0, h => by simpa using h
  | [], _, k + 1, h => by cases h; simp [EntCells]
  | e :: es, _, k + 1, ⟨v, cs', hc, h1, h2, hb, hr⟩ => by
    have := EntCells.drop k hr
    rw [hc, show (k + 1) * 3 = k * 3 + 3 by omega]
    simpa using this
theorem EntCells.take {S : Nat → Prop} {w : World} : ∀ {es : List Ent} {cs : List Value} (k : Nat), EntCells S w es cs → EntCells S w (es.take k) (cs.take (k * 3))
  | _, _, 0, h => by simp [EntCells]
  | [], _, k + 1, h => by cases h; simp [EntCells]
  | e :: es, _, k + 1, ⟨v, cs', hc, h1, h2, hb, hr⟩ => by
    have := EntCells.take k hr
    rw [hc, show (k + 1) * 3 = k * 3 + 3 by omega]
    exact ⟨v, cs'.take (k * 3), by simp, h1, h2, hb, this⟩
theorem Ents.keepS {S : Nat → Prop} {w w' : World} {v : Value} {es : List Ent} (h : Ents S w v es) (hs : Same S w w') : Ents S w' v es := by
  obtain ⟨cs, hr, he⟩ := h; exact ⟨cs, hr.keepS hs, he.keepS hs⟩
theorem Ents.keep {S : Nat → Prop} {w w' : World} {v : Value} {es : List Ent} (h : Ents S w v es) (hb : Below w.heap.size w w') : Ents S w' v es := h.keepS (Same.of_below' hb S)
theorem Ents.mono {S T : Nat → Prop} {w : World} {v : Value} {es : List Ent} (h : Ents S w v es) (hT : ∀ b, b < w.heap.size → S b → T b) : Ents T w v es := by
  obtain ⟨cs, hr, he⟩ := h; exact ⟨cs, hr.mono hT, he.mono hT⟩
theorem Ents.slice {S : Nat → Prop} {w : World} {v : Value} {es : List Ent} (h : Ents S w v es) : ∃ A c, v = .slice A es.length c := by
  obtain ⟨cs, hr, he⟩ := h; exact hr.slice

/-- A part of a log: its floor, or a run. -/
inductive Part where
  | ground (at_ term members : Int)
  | run (from_ : Int) (l : List Ent)
def headTerm (l : List Ent) : Int := match l with | [] => 0 | e :: _ => e.term
def Part.lastAt : Part → Int
  | .ground a _ _ => a
  | .run f l => f + l.length - 1
def Part.lastTerm : Part → Int
  | .ground _ t _ => t
  | .run _ l => headTerm l
def Part.has (n : Int) : Part → Bool
  | .ground a _ _ => decide (n = a)
  | .run f l => decide (f ≤ n) && decide (n ≤ f + l.length - 1)
/-- Within bounds: nothing goes round. -/
def Part.ok : Part → Prop
  | .ground a _ _ => 0 ≤ a ∧ a ≤ 1099511627776
  | .run f l => 0 ≤ f ∧ f ≤ 2199023255552 ∧ 0 < l.length ∧ l.length ≤ 4096
def PartV (S : Nat → Prop) (w : World) (v : Value) : Part → Prop
  | .ground a t m => v = .iface 97 (.agg #[.int .i64 a, .int .i64 t, .int .i64 m])
  | .run f l => ∃ sv, v = .iface 92 (.agg #[.int .i64 f, sv]) ∧ Ents S w sv l
theorem PartV.keepS {S : Nat → Prop} {w w' : World} {v : Value} {p : Part} (h : PartV S w v p) (hs : Same S w w') : PartV S w' v p := by
  cases p with
  | ground a t m => exact h
  | run f l => obtain ⟨sv, hv, he⟩ := h; exact ⟨sv, hv, he.keepS hs⟩
theorem PartV.keep {S : Nat → Prop} {w w' : World} {v : Value} {p : Part} (h : PartV S w v p) (hb : Below w.heap.size w w') : PartV S w' v p := h.keepS (Same.of_below' hb S)
theorem PartV.mono {S T : Nat → Prop} {w : World} {v : Value} {p : Part} (h : PartV S w v p) (hT : ∀ b, b < w.heap.size → S b → T b) : PartV T w v p := by
  cases p with
  | ground a t m => exact h
  | run f l => obtain ⟨sv, hv, he⟩ := h; exact ⟨sv, hv, he.mono hT⟩
def PartCells (S : Nat → Prop) (w : World) : List Part → List Value → Prop
  | [], vs => vs = []
  | p :: ps, vs => ∃ v vs', vs = v :: vs' ∧ PartV S w v p ∧ PartCells S w ps vs'
theorem PartCells.keepS {S : Nat → Prop} {w w' : World} (hs : Same S w w') : ∀ {ps : List Part} {vs : List Value}, PartCells S w ps vs → PartCells S w' ps vs
  | [], _, h => h
  | _ :: _, _, ⟨v, vs', hc, hv, hr⟩ => ⟨v, vs', hc, hv.keepS hs, PartCells.keepS hs hr⟩
theorem PartCells.mono {S T : Nat → Prop} {w : World} (hT : ∀ b, b < w.heap.size → S b → T b) : ∀ {ps : List Part} {vs : List Value}, PartCells S w ps vs → PartCells T w ps vs
  | [], _, h => h
  | _ :: _, _, ⟨v, vs', hc, hv, hr⟩ => ⟨v, vs', hc, hv.mono hT, PartCells.mono hT hr⟩
theorem PartCells.length {S : Nat → Prop} {w : World} : ∀ {ps : List Part} {vs : List Value}, PartCells S w ps vs → vs.length = ps.length
  | [], _, h => by cases h; rfl
  | _ :: _, _, ⟨v, vs', hc, _, hr⟩ => by have := PartCells.length hr; subst hc; simp [this]
theorem PartCells.at {S : Nat → Prop} {w : World} : ∀ {ps : List Part} {vs : List Value}, PartCells S w ps vs → ∀ i (h : i < ps.length), ∃ v, vs[i]? = some v ∧ PartV S w v ps[i]
  | [], _, _, i, h => by simp at h
  | p :: ps, _, ⟨v, vs', hc, hv, hr⟩, 0, h => ⟨v, by simp [hc], hv⟩
  | p :: ps, _, ⟨v, vs', hc, hv, hr⟩, i + 1, h => by
    obtain ⟨u, hu, hp⟩ := PartCells.at hr i (by simpa using h)
    exact ⟨u, by simpa [hc] using hu, by simpa using hp⟩
theorem PartCells.append {S : Nat → Prop} {w : World} : ∀ {ps qs : List Part} {vs us : List Value}, PartCells S w ps vs → PartCells S w qs us → PartCells S w (ps ++ qs) (vs ++ us)
  | [], _, _, _, h, k => by cases h; exact k
  | _ :: _, _, _, _, ⟨v, vs', hc, hv, hr⟩, k => ⟨v, vs' ++ _, by subst hc; rfl, hv, PartCells.append hr k⟩
theorem PartCells.take {S : Nat → Prop} {w : World} : ∀ {ps : List Part} {vs : List Value} (k : Nat), PartCells S w ps vs → PartCells S w (ps.take k) (vs.take k)
  | _, _, 0, _ => by simp [PartCells]
  | [], _, k + 1, h => by cases h; simp [PartCells]
  | _ :: _, _, k + 1, ⟨v, vs', hc, hv, hr⟩ => by subst hc; exact ⟨v, vs'.take k, by simp, hv, PartCells.take k hr⟩
theorem PartCells.drop {S : Nat → Prop} {w : World} : ∀ {ps : List Part} {vs : List Value} (k : Nat), PartCells S w ps vs → PartCells S w (ps.drop k) (vs.drop k)
  | _, _, 0, h => by simpa using h
  | [], _, k + 1, h => by cases h; simp [PartCells]
  | _ :: _, _, k + 1, ⟨v, vs', hc, hv, hr⟩ => by subst hc; simpa using PartCells.drop k hr
theorem PartV.one {S : Nat → Prop} {w : World} {v : Value} {p : Part} (h : PartV S w v p) : v.oneCell' = true := by
  cases p with
  | ground a t m => cases h; rfl
  | run f l => obtain ⟨sv, rfl, _⟩ := h; rfl
theorem PartCells.one {S : Nat → Prop} {w : World} : ∀ {ps : List Part} {vs : List Value}, PartCells S w ps vs → ∀ u ∈ vs, u.oneCell' = true
  | [], _, h => by cases h; simp
  | _ :: _, _, ⟨v, vs', hc, hv, hr⟩ => by
    subst hc
    intro u hu
    rcases List.mem_cons.1 hu with rfl | hu
    · exact hv.one
    · exact PartCells.one hr u hu

/-- A log: a pointer to its parts. -/
def LogAt (S : Nat → Prop) (w : World) (v : Value) (ps : List Part) : Prop :=
  ∃ b sv vs, v = .pointer (some ⟨b, 0, none⟩) ∧ S b ∧ w.cell? ⟨b, 0, none⟩ = some sv ∧ RowAt S w sv ps.length 1 vs ∧ PartCells S w ps vs
theorem LogAt.keepS {S : Nat → Prop} {w w' : World} {v : Value} {ps : List Part} (h : LogAt S w v ps) (hs : Same S w w') : LogAt S w' v ps := by
  obtain ⟨b, sv, vs, hv, hb, hc, hr, hp⟩ := h
  exact ⟨b, sv, vs, hv, hb, hs.cell (p := ⟨b, 0, none⟩) hb hc, hr.keepS hs, hp.keepS hs⟩
theorem LogAt.keep {S : Nat → Prop} {w w' : World} {v : Value} {ps : List Part} (h : LogAt S w v ps) (hb : Below w.heap.size w w') : LogAt S w' v ps := h.keepS (Same.of_below' hb S)
theorem LogAt.mono {S T : Nat → Prop} {w : World} {v : Value} {ps : List Part} (h : LogAt S w v ps) (hT : ∀ b, b < w.heap.size → S b → T b) : LogAt T w v ps := by
  obtain ⟨b, sv, vs, hv, hb, hc, hr, hp⟩ := h
  exact ⟨b, sv, vs, hv, hT b (block_lt hc) hb, hc, hr.mono hT, hp.mono hT⟩

theorem last_ground (a t m : Int) (w : World) :
    Calls Try.prog 127 #[.agg #[.int .i64 a, .int .i64 t, .int .i64 m]] w fun e w' => e = .returned (.tuple #[.int .i64 a, .int .i64 t]) ∧ Below w.heap.size w w' := by
  go_enter Try.func127, Try.ntmps127
  go_wp2
  go_quiet (fail)
  go_wp2
  go_ret2
  exact ⟨rfl, below_drewN (box_below _ _) _⟩
theorem last_run (f t : Int) (b o n c : Nat) (w : World) (h : w.cell? ⟨b, o + 1, none⟩ = some (.int .i64 t)) (hn : 0 < n) (hn' : n ≤ 4096) (h0 : 0 ≤ f) (h1 : f ≤ 2199023255552) :
    Calls Try.prog 126 #[.agg #[.int .i64 f, .slice (some ⟨b, o, none⟩) n c]] w fun e w' => e = .returned (.tuple #[.int .i64 (f + n - 1), .int .i64 t]) ∧ Below w.heap.size w w' := by
  have h' := fun o' => cell_keep (box_below w o') h
  have hn2 : (0 : Int) < (n : Int) := by omega
  go_enter Try.func126, Try.ntmps126
  go_wp2
  go_quiet (fail)
  go_wp2
  go_ret2
  exact ⟨rfl, below_drewN (box_below _ _) _⟩

theorem method_ground (n : Nat) (v : Value) (w : World) : (method (n + 1) 97 v "caisson/entries.last").run Try.prog w = .ok (127, v) w := by kernel_rfl
theorem method_run (n : Nat) (v : Value) (w : World) : (method (n + 1) 92 v "caisson/entries.last").run Try.prog w = .ok (126, v) w := by kernel_rfl
theorem ahead_ground (n : Nat) (v : Value) (w : World) : (nilAhead (n + 1) 97 v "caisson/entries.last").run Try.prog w = .ok (some false) w := by kernel_rfl
theorem ahead_run (n : Nat) (v : Value) (w : World) : (nilAhead (n + 1) 92 v "caisson/entries.last").run Try.prog w = .ok (some false) w := by kernel_rfl
theorem assert_gg (v : Value) (w : World) : (Instr.typeAssert (.iface 97 v) 82 97 true).run Try.prog w = .ok (.tuple #[v, .bool true]) w := by kernel_rfl
theorem assert_rr (v : Value) (w : World) : (Instr.typeAssert (.iface 92 v) 82 92 true).run Try.prog w = .ok (.tuple #[v, .bool true]) w := by kernel_rfl
theorem assert_gr (v : Value) (w : World) : (Instr.typeAssert (.iface 97 v) 82 92 true).run Try.prog w = .ok (.tuple #[.agg #[.int .i64 0, .slice none 0 0], .bool false]) w := by kernel_rfl
theorem assert_rg (v : Value) (w : World) : (Instr.typeAssert (.iface 92 v) 82 97 true).run Try.prog w = .ok (.tuple #[.agg #[.int .i64 0, .int .i64 0, .int .i64 0], .bool false]) w := by kernel_rfl
theorem assert_nr (w : World) : (Instr.typeAssert .nilIface 82 92 true).run Try.prog w = .ok (.tuple #[.agg #[.int .i64 0, .slice none 0 0], .bool false]) w := by kernel_rfl
attribute [go_sem] method_ground method_run ahead_ground ahead_run assert_gg assert_rr assert_gr assert_rg assert_nr
end Go.Proofs.Ytoaoldhajpbenaa
