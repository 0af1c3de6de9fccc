/- The statements' own 'log', 'terms'. No statement is proved here. -/
import Derived.Test.YtoaoldhajpbenaaEntJ
import Derived.Test.YtoaoldhajpbenaaEntB
namespace Go.Proofs.Ytoaoldhajpbenaa
open Go.RowKit
attribute [local go_sem ↓] Go.wp_at_zero Go.wp_at_succ

/-- Whether a log can be. -/
def logB (a t m : Int) (l : List Ent) : Bool := newB a t m && okSeq t l && decide (l.length ≤ 4096)
theorem newB_floor {a t m : Int} (h : newB a t m = true) : FloorOk a t m := by
  simp [newB, mayB, maskB] at h
  exact ⟨by omega, by omega, by omega, by omega, by omega, by omega⟩

set_option maxHeartbeats 1000000 in
theorem log_any {S : Nat → Prop} (a t m : Int) (lv : Value) (l : List Ent) (w : World) (hl : Ents S w lv l) (hll : l.length ≤ 140737488355328) :
    Calls Try.prog 11 #[.int .i64 a, .int .i64 t, .int .i64 m, lv] w fun e w' =>
      ((logB a t m l = true ∧ ∃ p, e = .returned p ∧ LogAt (fun b => w.heap.size ≤ b ∨ S b) w' p (Lg.of a t m l).parts) ∨ (logB a t m l = false ∧ e = .returned (.pointer none))) ∧ Below w.heap.size w w' := by
  have Hl := Lib.hid hl
  obtain ⟨A, lc, rfl⟩ := hl.slice
  by_cases hn : newB a t m = true
  · have Hn := Lib.hid (new_yes a t m w hn)
    have hf := newB_floor hn
    have hbase := hf.base
    have Hb := Lib.hid hbase
    have HN := Lib.hid hn
    clear hl hn hbase
    go_enter Try.func11, Try.ntmps11
    go_wp2_with (go_at_call 39; refine Hn.out.mono ?_; rintro _ w1 ⟨p, rfl, hp, hb1⟩; obtain ⟨pb, ps, pv, rfl, hpr⟩ := id hp; have Hp := Lib.hid hp; clear hp hpr)
    have he : (Lg.mk a t m []).ents.length = 0 := rfl
    have hE := (Hl.out.keep hb1).mono (T := fun b => w.heap.size ≤ b ∨ S b) fun b _ h => .inr h
    have hP := Hp.out.mono (T := fun b => w.heap.size ≤ b ∨ S b) fun b _ h => .inl h
    by_cases hroom : l.length ≤ 4096
    · refine (with_room (.pointer (some ⟨pb, 0, none⟩)) (Lg.mk a t m []) (.slice A l.length lc) l w1 hP Hb.out hE (by rw [he]; omega)).mono ?_
      rintro _ w2 ⟨hw | ⟨hw, rfl⟩, hb2⟩
      · obtain ⟨hok, q, rfl, hq⟩ := hw
        obtain ⟨qb, qs, qv, rfl, hqr⟩ := id hq
        have Hq := Lib.hid hq
        have Hok := Lib.hid hok
        clear hq hqr hok hE hP
        go_wp2_with fail
        go_ret
        refine ⟨.inl ⟨?_, _, rfl, ?_⟩, below_then hb1 hb2⟩
        · have := Hok.out; simp [Lg.topTerm] at this
          simp [logB, HN.out, this, hroom]
        · have hs := hb1.size
          exact Hq.out.mono fun b _ h => by
            rcases h with h | h
            · exact h
            · exact .inl (by omega)
      · have Hok := Lib.hid hw
        clear hw hE hP
        go_wp2_with fail
        go_ret
        refine ⟨.inr ⟨?_, rfl⟩, below_then hb1 hb2⟩
        have := Hok.out; simp [Lg.topTerm] at this
        simp [logB, this]
    · refine (with_full (.pointer (some ⟨pb, 0, none⟩)) (Lg.mk a t m []) A l.length lc w1 hP Hb.out (by rw [he]; omega) (by omega)).mono ?_
      rintro _ w2 ⟨rfl, hb2⟩
      clear hE hP
      go_wp2_with fail
      go_ret
      refine ⟨.inr ⟨?_, rfl⟩, below_then hb1 hb2⟩
      simp [logB]; intro _ _; omega
  · have hn' : newB a t m = false := by simpa using hn
    have HN := Lib.hid hn'
    clear hn hn' hl
    go_enter Try.func11, Try.ntmps11
    go_wp2_with (go_at_call 39; refine (new_no a t m w HN.out).mono ?_; rintro _ w1 ⟨rfl, rfl⟩)
    go_ret
    exact ⟨.inr ⟨by simp [logB, HN.out], rfl⟩, Below.refl _ _⟩

/-- Entries of terms. -/
def termE (t : Int) : Ent := ⟨1, t, []⟩
def termCells (ts : List Int) : List Value := ts.flatMap fun t => [.int .i64 1, .int .i64 t, .slice none 0 0]
theorem termCells_ents (S : Nat → Prop) (w : World) : ∀ (ts : List Int), (∀ t ∈ ts, in64 t) → EntCells S w (ts.map termE) (termCells ts)
  | [], _ => rfl
  | t :: ts, h => ⟨.slice none 0 0, _, rfl, ⟨by simp [termE], by simp [termE]⟩, h t (by simp), ⟨rfl, .inl ⟨rfl, .inl rfl⟩⟩, termCells_ents S w ts (fun x hx => h x (by simp [hx]))⟩
theorem termCells_take (ts : List Int) (k : Nat) (h : k < ts.length) : termCells (ts.take (k + 1)) = termCells (ts.take k) ++ [.int .i64 1, .int .i64 ts[k], .slice none 0 0] := by
  simp only [termCells]
  rw [List.take_succ_eq_append_getElem h, List.flatMap_append]
  rfl

set_option maxHeartbeats 1000000 in
theorem terms_any {S : Nat → Prop} (v : Value) (ts : List Int) (w : World) (h : RowAt S w v ts.length 1 (ts.map (Value.int .i64))) (hlen : ts.length ≤ 4096) (h64 : ∀ t ∈ ts, in64 t) :
    Calls Try.prog 40 #[v] w fun e w' => ∃ lv, e = .returned lv ∧ Ents (w.heap.size ≤ ·) w' lv (ts.map termE) ∧ Below w.heap.size w w' := by
  obtain ⟨i0, hi, hz0, hz1, hz2⟩ := info_parts infoEntry
  obtain ⟨A, c, rfl⟩ := h.slice
  have H := Lib.hid h
  have H64 := Lib.hid h64
  clear h h64
  go_enter Try.func40, Try.ntmps40
  go_wp2_with fail
  go_loopw [3, 4] (fun o i wr => ∃ k : Nat, k ≤ ts.length ∧ i = .int .i64 k ∧ wr.ownsRow w.heap.size 33 3 o k (termCells (ts.take k)) ∧ Below w.heap.size w wr) (fun _ i _ => ts.length - (intOf i).toNat)
  case atStart => exact ⟨0, Nat.zero_le _, rfl, World.ownsRow_nil _ _ _ _, Below.refl _ _⟩
  case round =>
    obtain ⟨k, hk, rfl, hown, hb⟩ := hrel
    have Hown := Lib.hid hown
    clear hown
    by_cases hlt : k < ts.length
    · obtain ⟨rb, ro, rc, he0, hrn, hrc, -, hrb, hrcell⟩ := H.out.form (by omega)
      injection he0 with he1 _ he2
      subst he1 he2
      have hcell : wr.cell? ⟨rb, ro + k, none⟩ = some (.int .i64 ts[k]) := cell_keep hb (hrcell k _ (by simp [hlt]))
      clear hrcell
      go_wp2_with (at_builtin; refine wpList_append_own_at _ rfl _ _ 22 rfl w.heap.size 33 i0 _ 3 40 Try.underlying22 hi hz0 hz1 hz2 rfl (by decide) _ k (termCells (ts.take k)) rfl ?ho ⟨wr.heap.size, 0, none⟩ 1 1 [.int .i64 1, .int .i64 ts[k], .slice none 0 0] rfl rfl ?hn ?h1 ?hm ?h7 ?hB ?_)
      case ho => exact Hown.out.alloc _
      case h1 => simp [Value.oneCell']
      case hm => simp [maxLen]; omega
      case h7 => omega
      case hB => have := hb.size; simp; omega
      intro v' w' hown' hg _ hat
      obtain ⟨g6, cap6, rfl, hgb6, hgl6⟩ := hown'.form (by omega)
      have Hown' := Lib.hid hown'
      have hb' : Below w.heap.size w w' := by
        refine (hb.alloc hb.size _).grown hg (by simp; have := hb.size; omega) fun j ej => ?_
        rcases Hown.out.2 with ⟨rfl, _⟩ | ⟨g, cap, cur, rfl, hgb, _, _⟩
        · simp [Value.ownBlock] at ej
        · obtain rfl : g = j := by simpa [Value.ownBlock] using ej
          exact hgb
      clear hown' hg hat
      go_wp2_with fail
      go_roundw
      case rel => exact ⟨k + 1, hlt, by simp, by rw [termCells_take ts k hlt]; exact Hown'.out, hb'⟩
      case measure => simp [intOf]; omega
    · obtain rfl : k = ts.length := by omega
      go_wp2_with fail
      go_ret
      have hr := RowAt.of_own Hown.out
      rw [List.take_length] at hr
      refine ⟨_, rfl, ⟨_, by simpa using hr, termCells_ents _ _ _ H64.out⟩, hb⟩
end Go.Proofs.Ytoaoldhajpbenaa
