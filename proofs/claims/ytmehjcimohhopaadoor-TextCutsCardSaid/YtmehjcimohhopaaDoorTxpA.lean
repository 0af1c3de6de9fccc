/- Pairs and their bytes: plain law. No statement is proved here. -/
import Derived.Test.YtmehjcimohhopaaDoorTxtN
namespace Go.Proofs.YtmehjcimohhopaaDoor
open Go.RowKit

/-- What a key's and a value's characters may be. -/
def inKeyI (c : Int) : Bool := decide (48 ≤ c ∧ c ≤ 57) || decide (97 ≤ c ∧ c ≤ 122) || decide (65 ≤ c ∧ c ≤ 90) || decide (c = 46 ∨ c = 45 ∨ c = 43 ∨ c = 64 ∨ c = 95)
def inValI (c : Int) : Bool := decide (32 ≤ c ∧ c ≤ 126)
def keyOK (s : ByteArray) : Bool := decide (1 ≤ (s.size : Int)) && decide ((s.size : Int) ≤ 63) && allB inKeyI s.data.toList
def valOK (s : ByteArray) : Bool := decide (0 ≤ (s.size : Int)) && decide ((s.size : Int) ≤ 255) && allB inValI s.data.toList
def pairOK (p : Pr) : Bool := keyOK p.1 && valOK p.2
/-- A pair's bytes, the last one aside; pairs' bytes. -/
def lineL (p : Pr) : List UInt8 := p.1.data.toList ++ 61 :: p.2.data.toList
def bytesL (l : List Pr) : List UInt8 := l.flatMap fun p => lineL p ++ [0]
def putP (l : List Pr) : List UInt8 × Int := if 64 < l.length then ([], 3) else if l.all pairOK then (bytesL l, 0) else ([], 1)

/-- Bytes parted at each zero. -/
def splitZ : List UInt8 → List (List UInt8)
  | [] => [[]]
  | c :: r => if c = 0 then [] :: splitZ r else match splitZ r with
    | h :: t => (c :: h) :: t
    | [] => [[c]]
theorem splitZ_ne : ∀ l, splitZ l ≠ []
  | [] => by simp [splitZ]
  | c :: r => by
    unfold splitZ
    split
    · simp
    · split <;> simp
theorem splitZ_one : ∀ l : List UInt8, (∀ c ∈ l, c ≠ 0) → splitZ l = [l]
  | [], _ => rfl
  | c :: r, h => by
    unfold splitZ
    rw [if_neg (h c (by simp)), splitZ_one r (fun x hx => h x (by simp [hx]))]
theorem splitZ_cons : ∀ (x r : List UInt8), (∀ c ∈ x, c ≠ 0) → splitZ (x ++ 0 :: r) = x :: splitZ r
  | [], r, _ => by show splitZ (0 :: r) = _; rw [splitZ]; rfl
  | c :: x, r, h => by
    show splitZ (c :: (x ++ 0 :: r)) = _
    rw [splitZ, if_neg (h c (by simp)), splitZ_cons x r (fun y hy => h y (by simp [hy]))]
theorem splitZ_back : ∀ l : List UInt8, (splitZ l).flatMap (· ++ [0]) = l ++ [0]
  | [] => rfl
  | c :: r => by
    have ih := splitZ_back r
    unfold splitZ
    split
    · rename_i h
      subst h
      show 0 :: (splitZ r).flatMap (· ++ [0]) = _
      rw [ih]
      rfl
    · split
      · rename_i h t e
        rw [e] at ih
        show c :: ((h :: t).flatMap (· ++ [0])) = _
        rw [ih]
        rfl
      · rename_i e
        exact absurd e (splitZ_ne r)

/-- A line parted at the first '='. -/
def cutE : List UInt8 → Option (List UInt8 × List UInt8)
  | [] => none
  | c :: r => if c = 61 then some ([], r) else (cutE r).map fun p => (c :: p.1, p.2)
theorem cutE_back : ∀ (l k v : List UInt8), cutE l = some (k, v) → l = k ++ 61 :: v
  | [], k, v, h => by cases h
  | c :: r, k, v, h => by
    unfold cutE at h
    split at h
    · rename_i e
      obtain ⟨rfl, rfl⟩ := Prod.mk.inj (Option.some.inj h)
      rw [e]
      rfl
    · cases hr : cutE r with
      | none => rw [hr] at h; cases h
      | some p =>
        rw [hr] at h
        obtain ⟨rfl, rfl⟩ := Prod.mk.inj (Option.some.inj h)
        rw [cutE_back r p.1 p.2 hr]
        rfl
theorem cutE_of : ∀ (k v : List UInt8), (∀ c ∈ k, c ≠ 61) → cutE (k ++ 61 :: v) = some (k, v)
  | [], v, _ => by show cutE (61 :: v) = _; rw [cutE, if_pos rfl]
  | c :: k, v, h => by
    show cutE (c :: (k ++ 61 :: v)) = _
    rw [cutE, if_neg (h c (by simp)), cutE_of k v (fun x hx => h x (by simp [hx]))]
    rfl
def toB (l : List UInt8) : ByteArray := ⟨l.toArray⟩
theorem toB_list (l : List UInt8) : (toB l).data.toList = l := rfl
theorem list_toB (s : ByteArray) : toB s.data.toList = s := rfl
theorem toB_inj {a b : List UInt8} (h : toB a = toB b) : a = b := by have := congrArg (fun s : ByteArray => s.data.toList) h; simpa [toB] using this

/-- A line more: none left over (3), no pair or one that was (11). -/
def getStep (st : Except Int (List Pr)) (line : List UInt8) : Except Int (List Pr) :=
  match st with
  | .error e => .error e
  | .ok out => if out.length = 64 then .error 3 else
    match cutE line with
    | none => .error 11
    | some (k, v) => if pairOK (toB k, toB v) && !(out.any fun p => p.1.data.toList == k) then .ok (out ++ [(toB k, toB v)]) else .error 11
def getRun (ls : List (List UInt8)) : Except Int (List Pr) := ls.foldl getStep (.ok [])
def getRes (r : Except Int (List Pr)) : List Pr × Int :=
  match r with
  | .ok q => (q, 0)
  | .error e => ([], e)
def getP (b : List UInt8) : List Pr × Int :=
  if b = [] then ([], 0) else if b.getLastD 0 ≠ 0 then ([], 10) else getRes (getRun (splitZ b.dropLast))

theorem getRun_snoc (a : List (List UInt8)) (x : List UInt8) : getRun (a ++ [x]) = getStep (getRun a) x := by simp [getRun]
theorem step_err (e : Int) : ∀ ls : List (List UInt8), ls.foldl getStep (.error e) = .error e
  | [] => rfl
  | _ :: ls => step_err e ls
theorem getRun_stop (a b : List (List UInt8)) (x : List UInt8) (e : Int) (h : getStep (getRun a) x = .error e) : getRun (a ++ x :: b) = .error e := by
  unfold getRun at *
  rw [List.foldl_append, List.foldl_cons, h, step_err]

theorem step_ok {out q : List Pr} {line : List UInt8} (h : getStep (.ok out) line = .ok q) : ∃ p : Pr, q = out ++ [p] ∧ pairOK p = true ∧ lineL p = line ∧ out.length ≠ 64 := by
  have h' : (if out.length = 64 then (.error 3 : Except Int (List Pr)) else match cutE line with | none => .error 11 | some (k, v) => if pairOK (toB k, toB v) && !(out.any fun p => p.1.data.toList == k) then .ok (out ++ [(toB k, toB v)]) else .error 11) = .ok q := h
  split at h'
  · cases h'
  · rename_i h64
    split at h'
    · cases h'
    · rename_i k v hc
      split at h'
      · rename_i ho
        injection h' with h'
        rw [Bool.and_eq_true] at ho
        refine ⟨(toB k, toB v), h'.symm, ho.1, ?_, h64⟩
        exact (cutE_back line k v hc).symm
      · cases h'
theorem run_back : ∀ (ls : List (List UInt8)) (out q : List Pr), out.length ≤ 64 → out.all pairOK = true → ls.foldl getStep (.ok out) = .ok q → q.length ≤ 64 ∧ q.all pairOK = true ∧ bytesL q = bytesL out ++ ls.flatMap (· ++ [0])
  | [], out, q, hl, ho, h => by
    obtain rfl : out = q := by injection h
    exact ⟨hl, ho, by simp⟩
  | x :: ls, out, q, hl, ho, h => by
    have h1 : ls.foldl getStep (getStep (.ok out) x) = .ok q := h
    cases hs : getStep (.ok out) x with
    | error e => rw [hs, step_err] at h1; cases h1
    | ok o2 =>
      rw [hs] at h1
      obtain ⟨p, rfl, hp, hx, h64⟩ := step_ok hs
      obtain ⟨g1, g2, g3⟩ := run_back ls (out ++ [p]) q (by simp; omega) (by simp [ho, hp]) h1
      refine ⟨g1, g2, ?_⟩
      rw [g3]
      simp [bytesL, ← hx]
theorem last_split (b : List UInt8) (hb : b ≠ []) (h : b.getLastD 0 = 0) : b.dropLast ++ [0] = b := by
  have e := List.dropLast_concat_getLast hb
  rw [List.getLastD_eq_getLast?, List.getLast?_eq_some_getLast hb] at h
  have h' : b.getLast hb = 0 := h
  rw [h'] at e
  exact e
/-- Bytes that are pairs are those pairs' bytes. -/
theorem putP_getP (b : List UInt8) (h : (getP b).2 = 0) : putP (getP b).1 = (b, 0) := by
  unfold getP at h ⊢
  split
  · rename_i hb
    subst hb
    rfl
  · rename_i hb
    rw [if_neg hb] at h
    split
    · rename_i hl
      rw [if_pos hl] at h
      exact absurd h (by decide)
    · rename_i hl
      rw [if_neg hl] at h
      cases hr : getRun (splitZ b.dropLast) with
      | error e =>
        exfalso
        unfold getRun at hr
        have hne : ∀ (ls : List (List UInt8)) (st : Except Int (List Pr)) (e : Int), (∀ e', st = .error e' → e' ≠ 0) → ls.foldl getStep st = .error e → e ≠ 0 := by
          intro ls
          induction ls with
          | nil => intro st e hst h; exact hst e h
          | cons x ls ih =>
            intro st e hst h
            refine ih (getStep st x) e ?_ h
            intro e' he'
            cases st with
            | error e2 =>
              have : (.error e2 : Except Int (List Pr)) = .error e' := he'
              injection this with this
              rw [← this]; exact hst e2 rfl
            | ok out =>
              have h' : (if out.length = 64 then (.error 3 : Except Int (List Pr)) else match cutE x with | none => .error 11 | some (k, v) => if pairOK (toB k, toB v) && !(out.any fun p => p.1.data.toList == k) then .ok (out ++ [(toB k, toB v)]) else .error 11) = .error e' := he'
              split at h'
              · injection h' with h'; rw [← h']; decide
              · split at h'
                · injection h' with h'; rw [← h']; decide
                · split at h'
                  · cases h'
                  · injection h' with h'; rw [← h']; decide
        have h0 : e ≠ 0 := hne _ _ e (fun e' h => by cases h) hr
        rw [show getRun (splitZ b.dropLast) = .error e from hr] at h
        exact h0 h
      | ok q =>
        obtain ⟨g1, g2, g3⟩ := run_back _ [] q (Nat.zero_le _) rfl hr
        show putP q = (b, 0)
        unfold putP
        rw [if_neg (by omega), if_pos g2, g3, splitZ_back, last_split b hb (by simpa using hl)]
        rfl
theorem key_chars {s : ByteArray} (h : keyOK s = true) : ∀ c ∈ s.data.toList, c ≠ 0 ∧ c ≠ 61 := by
  unfold keyOK allB at h
  rw [Bool.and_eq_true, List.all_eq_true] at h
  intro c hc
  have := h.2 c hc
  unfold inKeyI at this
  constructor
  · intro e; subst e; revert this; decide
  · intro e; subst e; revert this; decide
theorem val_chars {s : ByteArray} (h : valOK s = true) : ∀ c ∈ s.data.toList, c ≠ 0 := by
  unfold valOK allB at h
  rw [Bool.and_eq_true, List.all_eq_true] at h
  intro c hc
  have := h.2 c hc
  unfold inValI at this
  intro e; subst e; revert this; decide
theorem line_chars {p : Pr} (h : pairOK p = true) : ∀ c ∈ lineL p, c ≠ 0 := by
  unfold pairOK at h
  rw [Bool.and_eq_true] at h
  intro c hc
  unfold lineL at hc
  rw [List.mem_append, List.mem_cons] at hc
  rcases hc with hc | rfl | hc
  · exact (key_chars h.1 c hc).1
  · decide
  · exact val_chars h.2 c hc
theorem line_cut {p : Pr} (h : pairOK p = true) : cutE (lineL p) = some (p.1.data.toList, p.2.data.toList) := by
  unfold pairOK at h
  rw [Bool.and_eq_true] at h
  exact cutE_of _ _ (fun c hc => (key_chars h.1 c hc).2)
theorem split_bytes : ∀ (l : List Pr) (p : Pr), l.all pairOK = true → pairOK p = true → splitZ (bytesL (l ++ [p])).dropLast = l.map lineL ++ [lineL p]
  | [], p, _, hp => by
    have e : bytesL ([] ++ [p]) = lineL p ++ [0] := by simp [bytesL]
    rw [e, List.dropLast_concat, splitZ_one _ (line_chars hp)]
    rfl
  | q :: l, p, h, hp => by
    rw [List.all_cons, Bool.and_eq_true] at h
    have ih := split_bytes l p h.2 hp
    have e : bytesL (q :: l ++ [p]) = lineL q ++ 0 :: bytesL (l ++ [p]) := by simp [bytesL]
    have hne : bytesL (l ++ [p]) ≠ [] := by simp [bytesL]
    rw [e, show (lineL q ++ 0 :: bytesL (l ++ [p])).dropLast = lineL q ++ 0 :: (bytesL (l ++ [p])).dropLast by
      rw [List.dropLast_append_of_ne_nil (by simp), List.dropLast_cons_of_ne_nil hne], splitZ_cons _ _ (line_chars h.1), ih]
    rfl
theorem run_lines : ∀ (l out : List Pr), l.all pairOK = true → (out ++ l).length ≤ 64 → ((out ++ l).map (·.1)).Nodup → (l.map lineL).foldl getStep (.ok out) = .ok (out ++ l)
  | [], out, _, _, _ => by simp
  | p :: l, out, h, hl, hn => by
    rw [List.all_cons, Bool.and_eq_true] at h
    have hs : getStep (.ok out) (lineL p) = .ok (out ++ [p]) := by
      show (if out.length = 64 then (.error 3 : Except Int (List Pr)) else match cutE (lineL p) with | none => .error 11 | some (k, v) => if pairOK (toB k, toB v) && !(out.any fun p => p.1.data.toList == k) then .ok (out ++ [(toB k, toB v)]) else .error 11) = _
      rw [if_neg (by simp at hl; omega), line_cut h.1]
      show (if pairOK (toB p.1.data.toList, toB p.2.data.toList) && !(out.any fun q => q.1.data.toList == p.1.data.toList) then (.ok (out ++ [(toB p.1.data.toList, toB p.2.data.toList)]) : Except Int (List Pr)) else .error 11) = _
      rw [list_toB, list_toB]
      rw [if_pos]
      rw [Bool.and_eq_true]
      refine ⟨h.1, ?_⟩
      rw [Bool.not_eq_true', List.any_eq_false]
      intro q hq he
      have he' : q.1 = p.1 := by rw [← list_toB q.1, ← list_toB p.1, beq_iff_eq.1 he]
      rw [List.map_append, List.nodup_append] at hn
      exact hn.2.2 q.1 (List.mem_map.2 ⟨q, hq, rfl⟩) p.1 (by simp) he'
    show (l.map lineL).foldl getStep (getStep (.ok out) (lineL p)) = _
    rw [hs, run_lines l (out ++ [p]) h.2 (by simpa using hl) (by simpa using hn)]
    simp
/-- Pairs' bytes are those pairs, where no key is there twice. -/
theorem getP_putP (l : List Pr) (h : (putP l).2 = 0) (hn : (l.map (·.1)).Nodup) : getP (putP l).1 = (l, 0) := by
  unfold putP at h ⊢
  split
  · rename_i hl
    rw [if_pos hl] at h
    exact absurd h (by decide)
  · rename_i hl
    rw [if_neg hl] at h
    split
    · rename_i ho
      show getP (bytesL l) = (l, 0)
      rcases List.eq_nil_or_concat l with rfl | ⟨l', p, rfl⟩
      · rfl
      · rw [List.concat_eq_append] at *
        have ho' := ho
        rw [List.all_append, Bool.and_eq_true] at ho'
        have hp : pairOK p = true := by simpa using ho'.2
        unfold getP
        have hlast : (bytesL (l' ++ [p])).getLastD 0 = 0 := by simp [bytesL, List.getLastD_eq_getLast?]
        rw [if_neg (by simp [bytesL]), if_neg (by rw [hlast]; simp), split_bytes l' p ho'.1 hp]
        have hr : getRun (l'.map lineL ++ [lineL p]) = .ok (l' ++ [p]) := by
          have := run_lines (l' ++ [p]) [] ho (by simpa using hl) (by simpa using hn)
          simpa [getRun] using this
        rw [hr]
        rfl
    · rename_i ho
      rw [if_neg ho] at h
      exact absurd h (by decide)
end Go.Proofs.YtmehjcimohhopaaDoor
