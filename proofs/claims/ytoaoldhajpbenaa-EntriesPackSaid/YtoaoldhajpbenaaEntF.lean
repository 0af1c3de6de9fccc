/- 'New', 'back', 'Upto'. No statement is proved here. -/
import Derived.Test.YtoaoldhajpbenaaEntE
namespace Go.Proofs.Ytoaoldhajpbenaa
open Go.RowKit
attribute [local go_sem ↓] Go.wp_at_zero Go.wp_at_succ

theorem RowAt.of_blk {S : Nat → Prop} {w : World} {b n sz : Nat} {cs : List Value} {t : TypeId} (h : w.heap[b]? = some (.cells cs.toArray t (0, 0))) (hS : S b) (hl : cs.length = n * sz) (hn : n ≤ maxLen) :
    RowAt S w (.slice (some ⟨b, 0, none⟩) n n) n sz cs :=
  ⟨hl, .inr ⟨b, 0, n, rfl, Nat.le_refl _, hn, hS, (Array.getElem?_eq_some_iff.1 h).1, fun i u hu => by rw [cell_of_row w b (0 + i) _ t (0, 0) h]; simpa using hu⟩⟩

def newB (a t m : Int) : Bool := mayB a && mayB t && maskB m && !(decide (a = 0) && !decide (t = 0))

set_option maxHeartbeats 1000000 in
theorem new_no (a t m : Int) (w : World) (h : newB a t m = false) :
    Calls Try.prog 39 #[.int .i64 a, .int .i64 t, .int .i64 m] w fun e w' => e = .returned (.tuple #[.pointer none, .int .i64 1]) ∧ w = w' := by
  cases h1 : mayB a
  · go_enter Try.func39, Try.ntmps39
    go_wp2_with (first | (go_at_call 81; refine (may_any _ _).mono ?_; rintro e w' ⟨rfl, rfl⟩) | (go_at_call 82; refine (mask_any _ _).mono ?_; rintro e w' ⟨rfl, rfl⟩))
    go_ret2
    exact ⟨rfl, rfl⟩
  cases h2 : mayB t
  · go_enter Try.func39, Try.ntmps39
    go_wp2_with (first | (go_at_call 81; refine (may_any _ _).mono ?_; rintro e w' ⟨rfl, rfl⟩) | (go_at_call 82; refine (mask_any _ _).mono ?_; rintro e w' ⟨rfl, rfl⟩))
    go_ret2
    exact ⟨rfl, rfl⟩
  cases h3 : maskB m
  · go_enter Try.func39, Try.ntmps39
    go_wp2_with (first | (go_at_call 81; refine (may_any _ _).mono ?_; rintro e w' ⟨rfl, rfl⟩) | (go_at_call 82; refine (mask_any _ _).mono ?_; rintro e w' ⟨rfl, rfl⟩))
    go_ret2
    exact ⟨rfl, rfl⟩
  have h4 : a = 0 ∧ t ≠ 0 := by simp [newB, h1, h2, h3] at h; exact h
  obtain ⟨rfl, ht⟩ := h4
  have ht1 : (t == 0) = false := beq_eq_false_iff_ne.2 ht
  have ht2 : (t != 0) = true := by rw [bne_iff_ne]; exact ht
  clear h ht
  go_enter Try.func39, Try.ntmps39
  go_wp2_with (first | (go_at_call 81; refine (may_any _ _).mono ?_; rintro e w' ⟨rfl, rfl⟩) | (go_at_call 82; refine (mask_any _ _).mono ?_; rintro e w' ⟨rfl, rfl⟩))
  go_ret2
  exact ⟨rfl, rfl⟩

theorem new_log (a t m : Int) (w : World) :
    LogAt (w.heap.size ≤ ·) ((w.alloc (.cells #[.iface 97 (.agg #[.int .i64 a, .int .i64 t, .int .i64 m])] 82)).alloc (.cells #[.slice (some ⟨w.heap.size, 0, none⟩) 1 1] 89)) (.pointer (some ⟨w.heap.size + 1, 0, none⟩)) (Lg.mk a t m []).parts := by
  have h1 := blk_new (w.alloc (.cells #[.iface 97 (.agg #[.int .i64 a, .int .i64 t, .int .i64 m])] 82)) (.cells #[.slice (some ⟨w.heap.size, 0, none⟩) 1 1] 89)
  have h2 := blk_alloc (blk_new w (.cells #[.iface 97 (.agg #[.int .i64 a, .int .i64 t, .int .i64 m])] 82)) (.cells #[.slice (some ⟨w.heap.size, 0, none⟩) 1 1] 89)
  rw [World.size_alloc] at h1
  exact ⟨_, _, [_], rfl, Nat.le_succ _, (cells1 h1).1, RowAt.of_blk (cs := [_]) h2 (Nat.le_refl _) rfl (by simp [maxLen]), ⟨_, [], rfl, rfl, rfl⟩⟩
theorem below_two (w : World) (o o' : Obj) : Below w.heap.size w ((w.alloc o).alloc o') := (box_below _ _).alloc (by simp) _

set_option maxHeartbeats 1000000 in
theorem new_yes (a t m : Int) (w : World) (h : newB a t m = true) :
    Calls Try.prog 39 #[.int .i64 a, .int .i64 t, .int .i64 m] w fun e w' => ∃ p, e = .returned (.tuple #[p, .int .i64 0]) ∧ LogAt (w.heap.size ≤ ·) w' p (Lg.mk a t m []).parts ∧ Below w.heap.size w w' := by
  simp [newB] at h
  obtain ⟨⟨⟨h1, h2⟩, h3⟩, h4⟩ := h
  have H4 := Lib.hid h4
  clear h4
  by_cases ha : a = 0
  · have ht : t = 0 := H4.out.resolve_left (fun hn => hn ha)
    subst ha ht
    go_enter Try.func39, Try.ntmps39
    go_wp2_with (first | (go_at_call 81; refine (may_any _ _).mono ?_; rintro e w' ⟨rfl, rfl⟩) | (go_at_call 82; refine (mask_any _ _).mono ?_; rintro e w' ⟨rfl, rfl⟩))
    go_ret2
    exact ⟨_, rfl, new_log _ _ _ _, below_two _ _ _⟩
  · have ha1 : (a == 0) = false := beq_eq_false_iff_ne.2 ha
    clear ha
    go_enter Try.func39, Try.ntmps39
    go_wp2_with (first | (go_at_call 81; refine (may_any _ _).mono ?_; rintro e w' ⟨rfl, rfl⟩) | (go_at_call 82; refine (mask_any _ _).mono ?_; rintro e w' ⟨rfl, rfl⟩))
    go_ret2
    exact ⟨_, rfl, new_log _ _ _ _, below_two _ _ _⟩

/-- Where the run that has a place begins. -/
def runStart (n : Int) : List (Int × List Ent) → Option Int
  | [] => none
  | r :: rs => if (Part.run r.1 r.2).has n then some r.1 else runStart n rs
theorem runStart_none {n : Int} : ∀ {rs : List (Int × List Ent)}, (∀ j (h : j < rs.length), (Part.run rs[j].1 rs[j].2).has n = false) → runStart n rs = none
  | [], _ => rfl
  | r :: rs, h => by
    have h0 := h 0 (by simp)
    simp only [List.getElem_cons_zero] at h0
    simp only [runStart, h0]
    exact runStart_none fun j hj => h (j + 1) (by simpa using hj)
theorem runStart_some {n : Int} : ∀ {rs : List (Int × List Ent)} (i : Nat) (hi : i < rs.length), (∀ j (h : j < rs.length), j < i → (Part.run rs[j].1 rs[j].2).has n = false) → (Part.run rs[i].1 rs[i].2).has n = true → runStart n rs = some rs[i].1
  | [], i, hi, _, _ => by simp at hi
  | r :: rs, 0, _, _, h => by simp only [List.getElem_cons_zero] at h; simp [runStart, h]
  | r :: rs, i + 1, hi, hno, h => by
    have h0 := hno 0 (by simp) (by omega)
    simp only [List.getElem_cons_zero] at h0
    simp only [runStart, h0, List.getElem_cons_succ]
    exact runStart_some i (by simpa using hi) (fun j hj hj' => hno (j + 1) (by simpa using hj) (by omega)) (by simpa using h)
/-- Where to go back to. -/
def Lg.back (g : Lg) (n : Int) : Int :=
  if g.top < n then g.top else match runStart n g.rs with
    | some f => f - 1
    | none => g.a

set_option maxHeartbeats 1000000 in
theorem back_any {S : Nat → Prop} (p : Value) (g : Lg) (n : Int) (w : World) (h : LogAt S w p g.parts) (hg : g.Good) :
    Calls Try.prog 49 #[p, .int .i64 n] w fun e w' => e = .returned (.int .i64 (g.back n)) ∧ Below w.heap.size w w' := by
  have Ht := Lib.hid (top_run p g w h hg)
  have Hf := Lib.hid fun w' (hb : Below w.heap.size w w') => find_lg p g n w' (h.keep hb) hg
  have Hg := Lib.hid fun w' (hb : Below w.heap.size w w') => ground_any p g w' (h.keep hb)
  by_cases hn : g.top < n
  · have Hb := Lib.hid (show g.back n = g.top by simp [Lg.back, hn])
    go_enter Try.func49, Try.ntmps49
    go_wp2_with (go_at_call 19; refine Ht.out.mono ?_; rintro e w1 ⟨rfl, hb1⟩)
    go_ret
    exact ⟨by rw [Hb.out]; rfl, hb1⟩
  · go_enter Try.func49, Try.ntmps49
    go_wp2_with (go_at_call 19; refine Ht.out.mono ?_; rintro e w1 ⟨rfl, hb1⟩)
    refine (Hf.out _ hb1).mono ?_
    rintro e w2 ⟨hp, hb2⟩
    rcases hp with ⟨i, hi, v, hh, hno, hv, rfl⟩ | ⟨hno, rfl⟩
    · rcases hg.part hi hh with ⟨rfl, hna⟩ | ⟨j, hj, rfl, h1, h2, h3, h4, -, he⟩
      · have hs : runStart n g.rs = none := runStart_none fun j hj => by
            obtain ⟨a1, -⟩ := hg.chain.at j hj
            simp [Part.has]; omega
        have Hb := Lib.hid (show g.back n = g.a by simp [Lg.back, hs]; omega)
        clear hs
        rw [g.parts_zero] at hv
        obtain rfl := hv
        clear hno hna
        go_wp2_with (go_at_call 48; refine (Hg.out _ (below_alloc (below_then hb1 hb2) _)).mono ?_; rintro e w3 ⟨rfl, hb3⟩)
        go_ret
        exact ⟨by rw [Hb.out]; rfl, below_then (below_alloc (below_then hb1 hb2) _) hb3⟩
      · have hs : runStart n g.rs = some g.rs[j].1 := runStart_some j hj (fun k hk hkj => hno (k + 1) (by simp [Lg.parts]; omega) (by omega) |> (fun hx => by rwa [g.parts_succ k hk] at hx)) (by rwa [g.parts_succ j hj] at hh)
        have Hb := Lib.hid (show g.back n = g.rs[j].1 - 1 by simp [Lg.back, hs]; omega)
        clear hs
        rw [g.parts_succ j hj] at hv
        obtain ⟨k1, k2, k3, k4⟩ := hg.run_ok j hj
        obtain ⟨sv, rfl, he⟩ := hv
        obtain ⟨A, c, rfl⟩ := he.slice
        clear hno he
        go_wp2_with fail
        go_ret
        exact ⟨by rw [Hb.out]; rfl, below_alloc (below_then hb1 hb2) _⟩
    · have hs : runStart n g.rs = none := runStart_none fun j hj => by
          have := hno (j + 1) (by simp [Lg.parts]; omega) (by simp [Lg.parts]; omega)
          rwa [g.parts_succ j hj] at this
      have Hb := Lib.hid (show g.back n = g.a by simp [Lg.back, hs]; omega)
      clear hs
      clear hno
      go_wp2_with (go_at_call 48; refine (Hg.out _ (below_then hb1 hb2)).mono ?_; rintro e w3 ⟨rfl, hb3⟩)
      go_ret
      exact ⟨by rw [Hb.out]; rfl, below_then (below_then hb1 hb2) hb3⟩
end Go.Proofs.Ytoaoldhajpbenaa
