/- 'Upto', 'With'. No statement is proved here. -/
import Derived.Test.YtoaoldhajpbenaaEntF
import Derived.Deep.RegionLaw
namespace Go.Proofs.Ytoaoldhajpbenaa
open Go.RowKit
attribute [local go_sem ↓] Go.wp_at_zero Go.wp_at_succ

theorem upto_nil (n : Int) (w : World) : Calls Try.prog 24 #[.pointer none, .int .i64 n] w fun e w' => e = .returned (.tuple #[.pointer none, .int .i64 2]) ∧ w = w' := by
  go_enter Try.func24, Try.ntmps24
  go_wp2_with fail
  go_ret2
  exact ⟨rfl, rfl⟩

set_option maxRecDepth 100000 in
set_option maxHeartbeats 1000000 in
theorem upto_none {S : Nat → Prop} (p : Value) (g : Lg) (n : Int) (w : World) (h : LogAt S w p g.parts) (hg : g.Good) (hn : n < g.a ∨ g.top < n) :
    Calls Try.prog 24 #[p, .int .i64 n] w fun e w' => e = .returned (.tuple #[.pointer none, .int .i64 1]) ∧ Below w.heap.size w w' := by
  have Hf := Lib.hid (find_lg p g n w h hg)
  obtain ⟨b, sv, vs, rfl, -, -⟩ := h
  go_enter Try.func24, Try.ntmps24
  go_wp2_with fail
  refine Hf.out.mono ?_
  rintro e w1 ⟨hp, hb⟩
  rcases hp with ⟨i, hi, v, hh, -, -, rfl⟩ | ⟨-, rfl⟩
  · exfalso
    rcases hg.part hi hh with ⟨rfl, rfl⟩ | ⟨j, hj, rfl, h1, h2, -⟩
    · unfold Lg.top at hn; omega
    · omega
  · go_wp2_with fail
    go_ret2
    exact ⟨rfl, hb⟩

set_option maxRecDepth 100000 in
set_option maxHeartbeats 1000000 in
theorem upto_floor {S : Nat → Prop} (p : Value) (g : Lg) (w : World) (h : LogAt S w p g.parts) (hg : g.Good) :
    Calls Try.prog 24 #[p, .int .i64 g.a] w fun e w' => ∃ q, e = .returned (.tuple #[q, .int .i64 0]) ∧ LogAt (w.heap.size ≤ ·) w' q (Lg.mk g.a g.t g.m []).parts ∧ Below w.heap.size w w' := by
  have Hf := Lib.hid (find_lg p g g.a w h hg)
  obtain ⟨b, sv, vs, rfl, -, hcell, hrow, hpc⟩ := h
  obtain ⟨pb, po, pc, rfl, hn, hc, -, hlt, hcells⟩ := hrow.form (by simp [Lg.parts])
  have hle := hg.parts_le
  have hp0 : 0 < g.parts.length := by simp [Lg.parts]
  go_enter Try.func24, Try.ntmps24
  go_wp2_with fail
  refine Hf.out.mono ?_
  rintro e w1 ⟨hp, hb⟩
  have hcell1 := cell_keep hb hcell
  rcases hp with ⟨i, hi, v, hh, -, hv, rfl⟩ | ⟨hno, rfl⟩
  · rcases hg.part hi hh with ⟨rfl, -⟩ | ⟨j, hj, rfl, h1, h2, -⟩
    · rw [g.parts_zero] at hv
      obtain rfl := hv
      have hpc1 := hpc.take 1
      have hl1 : (vs.take 1).length = 1 * 1 := by have := hpc.length; simp; omega
      have hk := fun i u (hu : (vs.take 1)[i]? = some u) => cell_keep hb (hcells i u (by rw [List.getElem?_take] at hu; split at hu <;> simp_all))
      have Hpc := Lib.hid hpc1
      have Hone := Lib.hid hpc1.one
      have Hk := Lib.hid hk
      have Hl := Lib.hid hl1
      have Hc := Lib.hid hc
      have hc1 : 1 ≤ pc := by omega
      unfold maxLen at hc
      have hn2 : (1 : Int) ≤ (pc : Int) := by omega
      clear hk hl1 hpc1 hcells hpc hrow hcell hh hi hn
      go_wp2_with fail
      refine (clone_parts w1 pb po 1 pc (vs.take 1) Hl.out hc1 Hc.out (by omega) Hone.out Hk.out).mono ?_
      rintro e w2 ⟨v, rfl, hown, hb2⟩
      obtain ⟨gb, cap, rfl, hgb, hgl⟩ := hown.form (by omega)
      have Hown := Lib.hid hown
      clear hown
      go_wp2_with fail
      go_ret2
      refine ⟨_, rfl, ?_, below_alloc (below_alloc (below_then hb hb2) _) _⟩
      have h1 := blk_new (w2.alloc (.cells #[.int .i64 0, .slice none 0 0] 92)) (.cells #[.slice (some ⟨gb, 0, none⟩) 1 cap] 89)
      rw [World.size_alloc] at h1
      refine ⟨_, _, vs.take 1, rfl, ?_, (cells1 h1).1, ?_, ?_⟩
      · have := hb2.size; have := hb.size; omega
      · exact ((RowAt.of_own Hown.out).mono (fun b _ h => Nat.le_trans hb.size h)).keep (below_two _ _ _)
      · obtain ⟨v, vs', h1, h2, h3⟩ := Hpc.out
        exact ⟨v, vs', h1, h2, h3⟩
    · omega
  · exfalso
    have := hno 0 (by simp [Lg.parts]) (by simp [Lg.parts])
    rw [g.parts_zero] at this
    simp [Part.has] at this

/-- Up to a place of the j-th run. -/
def Lg.cutAt (g : Lg) (j : Nat) (n : Int) : Lg := { g with rs := g.rs.take j ++ (match g.rs[j]? with | some r => [(r.1, r.2.take (n - r.1 + 1).toNat)] | none => []) }

theorem Lg.parts_take (g : Lg) (j : Nat) : g.parts.take (j + 1) = .ground g.a g.t g.m :: (g.rs.take j).map fun r => .run r.1 r.2 := by simp [Lg.parts]

theorem upto_log {S : Nat → Prop} {w w2 : World} {g : Lg} {j i m cap gb rb ro rc B : Nat} {f : Int} {l : List Ent} {cs vs : List Value} (hij : i = j + 1) (hm : i + 1 = m) (hlen : i ≤ (vs.take (i + 1)).length)
    (hpc : PartCells S w (g.parts.take (i + 1)) (vs.take (i + 1))) (hown : w2.ownsRow B 82 1 (.slice (some ⟨gb, 0, none⟩) (i + 1) cap) (i + 1) (vs.take (i + 1))) (hB : w.heap.size ≤ B) (hgb : B ≤ gb)
    (hrl : RowAt S w (.slice (some ⟨rb, ro, none⟩) l.length rc) l.length 3 cs) (hec : EntCells S w l cs) (hb : Below w.heap.size w w2) (k : Nat) (hk : k ≤ l.length) (X : Obj) :
    LogAt (fun b => S b ∨ w.heap.size ≤ b) ((((w2.setCell ⟨gb, i, none⟩ (.iface 92 (.agg #[.int .i64 f, .slice (some ⟨rb, ro, none⟩) k k]))).alloc X).alloc (.cells #[.slice (some ⟨gb, 0, none⟩) m cap] 89)).drew)
      (.pointer (some ⟨w2.heap.size + 1, 0, none⟩)) (Lg.mk g.a g.t g.m (g.rs.take j ++ [(f, l.take k)])).parts := by
  have hle := hrl.le
  have hbf : Below w.heap.size w ((((w2.setCell ⟨gb, i, none⟩ (.iface 92 (.agg #[.int .i64 f, .slice (some ⟨rb, ro, none⟩) k k]))).alloc X).alloc (.cells #[.slice (some ⟨gb, 0, none⟩) m cap] 89)).drew) :=
    (below_alloc (below_alloc (hb.setCell (p := ⟨gb, i, none⟩) (by simp; omega) _) _) _).drew
  have h1 := blk_new ((w2.setCell ⟨gb, i, none⟩ (.iface 92 (.agg #[.int .i64 f, .slice (some ⟨rb, ro, none⟩) k k]))).alloc X) (.cells #[.slice (some ⟨gb, 0, none⟩) m cap] 89)
  rw [World.size_alloc, size_setCell] at h1
  have hst := (hown.stored (g := gb) i (.iface 92 (.agg #[.int .i64 f, .slice (some ⟨rb, ro, none⟩) k k]))).1
  subst hm
  refine ⟨_, _, (vs.take (i + 1)).set i (.iface 92 (.agg #[.int .i64 f, .slice (some ⟨rb, ro, none⟩) k k])), rfl, .inr ?_, (cells1 h1).1, ?_, ?_⟩
  · have := hb.size; omega
  · have hl : (Lg.mk g.a g.t g.m (g.rs.take j ++ [(f, l.take k)])).parts.length = i + 1 := by
      have h1 := hpc.length
      have h2 := hown.1
      rw [Lg.parts_length]
      have h3 : (g.parts.take (i + 1)).length = i + 1 := by omega
      simp [Lg.parts] at h3
      simp; omega
    rw [hl]
    exact ((((RowAt.of_own hst).mono (T := fun b => S b ∨ w.heap.size ≤ b) (fun b _ h => .inr (Nat.le_trans hB h))).keep (below_two _ _ _)).keep ((Below.refl _ _).drew))
  · have hset : (vs.take (i + 1)).set i (.iface 92 (.agg #[.int .i64 f, .slice (some ⟨rb, ro, none⟩) k k])) = (vs.take (i + 1)).take i ++ [.iface 92 (.agg #[.int .i64 f, .slice (some ⟨rb, ro, none⟩) k k])] := by
      have h2 := hown.1
      rw [List.set_eq_take_append_cons_drop, if_pos (by omega)]
      congr 1
      rw [List.drop_of_length_le (by omega)]
    rw [hset]
    have hp : (Lg.mk g.a g.t g.m (g.rs.take j ++ [(f, l.take k)])).parts = (g.parts.take (i + 1)).take i ++ [.run f (l.take k)] := by
      subst hij
      rw [List.take_take, Nat.min_eq_left (by omega), g.parts_take]
      simp [Lg.parts]
    rw [hp]
    refine ((hpc.take i).keepS (Same.of_below' hbf S)).mono (fun _ _ h => .inl h) |>.append ⟨_, [], rfl, ⟨_, rfl, ?_⟩, rfl⟩
    refine ⟨(cs.drop (0 * 3)).take (k * 3), ?_, ?_⟩
    · have := ((hrl.cut 0 k k (by omega) (Nat.le_refl _) (by omega)).keep hbf).mono (T := fun b => S b ∨ w.heap.size ≤ b) (fun _ _ h => .inl h)
      have hkl : (l.take k).length = k := by simp; omega
      rw [hkl]
      simpa using this
    · simpa using ((hec.take k).keepS (Same.of_below' hbf S)).mono (T := fun b => S b ∨ w.heap.size ≤ b) (fun _ _ h => .inl h)

set_option maxRecDepth 100000 in
set_option maxHeartbeats 2000000 in
theorem upto_run {S : Nat → Prop} (p : Value) (g : Lg) (n : Int) (w : World) (h : LogAt S w p g.parts) (hg : g.Good) (hn1 : g.a < n) (hn2 : n ≤ g.top) :
    Calls Try.prog 24 #[p, .int .i64 n] w fun e w' => ∃ q j, ∃ hj : j < g.rs.length, g.rs[j].1 ≤ n ∧ n ≤ g.rs[j].1 + g.rs[j].2.length - 1 ∧ e = .returned (.tuple #[q, .int .i64 0]) ∧
      LogAt (fun b => S b ∨ w.heap.size ≤ b) w' q (g.cutAt j n).parts ∧ Below w.heap.size w w' := by
  have Hf := Lib.hid (find_lg p g n w h hg)
  obtain ⟨b, sv, vs, rfl, -, hcell, hrow, hpc⟩ := h
  obtain ⟨pb, po, pc, rfl, hn, hc, -, hlt, hcells⟩ := hrow.form (by simp [Lg.parts])
  have hle := hg.parts_le
  have hp0 : 0 < g.parts.length := by simp [Lg.parts]
  go_enter Try.func24, Try.ntmps24
  go_wp2_with fail
  refine Hf.out.mono ?_
  rintro e w1 ⟨hp, hb⟩
  have hcell1 := cell_keep hb hcell
  rcases hp with ⟨i, hi, v, hh, -, hv, rfl⟩ | ⟨hno, rfl⟩
  · rcases hg.part hi hh with ⟨rfl, rfl⟩ | ⟨j, hj, hij, h1, h2, h3, h4, -⟩
    · omega
    · replace hv : PartV S w v (.run g.rs[j].1 g.rs[j].2) := by subst hij; rwa [g.parts_succ j hj] at hv
      have Hij := Lib.hid hij
      have hil : i ≤ 4096 := by have := g.parts_length; omega
      have Hr0 := Lib.hid (hg.run_ok j hj)
      obtain ⟨k1, k2, k3, k4⟩ := hg.run_ok j hj
      have Hv := Lib.hid hv
      obtain ⟨sl, rfl, cs, hrl, hec⟩ := hv
      obtain ⟨rb, ro, rc, rfl, hrn, hrc, -, hrb, hrcell⟩ := hrl.form k3
      have hpc1 := hpc.take (i + 1)
      have hl1 : (vs.take (i + 1)).length = (i + 1) * 1 := by have := hpc.length; simp; omega
      have hk := fun k u (hu : (vs.take (i + 1))[k]? = some u) => cell_keep hb (hcells k u (by rw [List.getElem?_take] at hu; split at hu <;> simp_all))
      have Hpc := Lib.hid hpc1
      have Hone := Lib.hid hpc1.one
      have Hk := Lib.hid hk
      have Hl := Lib.hid hl1
      have Hc := Lib.hid hc
      have Hrl := Lib.hid hrl
      have Hec := Lib.hid hec
      have Hrn := Lib.hid hrn
      have Hrc := Lib.hid hrc
      have hc1 : i + 1 ≤ pc := by omega
      unfold maxLen at hc hrc
      have e1 : (i : Int) + 1 ≤ (pc : Int) := by omega
      clear hij hk hl1 hpc1 hcells hpc hrow hcell hh hi hn hrcell hec hrl hrn
      go_wp2_with fail
      refine (clone_parts w1 pb po (i + 1) pc (vs.take (i + 1)) Hl.out hc1 Hc.out (by omega) Hone.out Hk.out).mono ?_
      rintro e w2 ⟨v, rfl, hown, hb2⟩
      obtain ⟨gb, cap, rfl, hgb, hgl⟩ := hown.form (by omega)
      have hcj := hown.cells (g := gb) rfl i ((vs.take (i + 1))[i]'(by have := Hl.out; omega)) (by simp)
      have hfj := hown.frozenAt (g := gb) i
      rw [add_plain, Nat.zero_add] at hcj
      have Hown := Lib.hid hown
      have Hx := Lib.hid (show (g.rs[j]'hj) = (g.rs[j].1, g.rs[j].2) from rfl)
      clear hown
      generalize g.rs[j].1 = f at *
      generalize g.rs[j].2 = l at *
      generalize (vs.take (i + 1))[i]'_ = old at *
      have i1 : (0 : Int) ≤ n - f := by omega
      have i2 : n - f + 1 ≤ (rc : Int) := by have := Hrn.out; omega
      have i3 : (0 : Int) ≤ n - f + 1 := by omega
      have q1 : IntKind.i64.wrap (n - f) = n - f := IntWalk.i64_in _ (by omega)
      have q2 : IntKind.i64.wrap (n - f + 1) = n - f + 1 := IntWalk.i64_in _ (by omega)
      have i4 : (0 : Int) ≤ (i : Int) := by omega
      obtain ⟨m, hm⟩ : ∃ m, i + 1 = m := ⟨_, rfl⟩
      have i5 : (i : Int) < (m : Int) := by omega
      have Hm := Lib.hid hm
      rw [hm]
      clear hm
      have hne1 := World.new_ne w2 _ hcj
      go_wp2_with fail
      go_region_held3 (fun w' => w'.cell? ⟨w2.heap.size, 0, none⟩ = some (.int .i64 f) ∧ w'.cell? ⟨w2.heap.size, 1, none⟩ = some (.slice (some ⟨rb, ro, none⟩) l.length rc)) (first | exact ⟨cell_set_alloc _ _ _ _ _ _ _ rfl, cell_set_alloc _ _ _ _ _ _ _ rfl⟩ | go_keep) (fail)
      go_wp2_with fail
      go_ret2
      have hbf : Below w.heap.size w ((((w2.setCell ⟨gb, i, none⟩ (.iface 92 (.agg #[.int .i64 f, .slice (some ⟨rb, ro, none⟩) (n - f + 1).toNat (n - f + 1).toNat]))).alloc (.cells #[.int .i64 f, .slice (some ⟨rb, ro, none⟩) l.length rc] 92)).alloc (.cells #[.slice (some ⟨gb, 0, none⟩) m cap] 89)).drew) :=
        (below_alloc (below_alloc ((below_then hb hb2).setCell (p := ⟨gb, i, none⟩) (by have := hb.size; simp; omega) _) _) _).drew
      refine ⟨_, j, hj, by rw [Hx.out]; exact h3, by rw [Hx.out]; exact h4, rfl, ?_, hbf⟩
      have hcut : g.cutAt j n = Lg.mk g.a g.t g.m (g.rs.take j ++ [(f, l.take (n - f + 1).toNat)]) := by
        unfold Lg.cutAt; rw [List.getElem?_eq_getElem hj, Hx.out]
      rw [hcut]
      exact upto_log Hij.out Hm.out (by have := Hl.out; omega) Hpc.out Hown.out hb.size hgb Hrl.out Hec.out (below_then hb hb2) _ (by omega) _
  · exfalso
    have := hg.noPart fun j hj => hno j hj hj
    omega
end Go.Proofs.Ytoaoldhajpbenaa
