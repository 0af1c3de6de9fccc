/- 'change': the last Config at or below a place. No statement is proved here. -/
import Derived.Test.YtoaoldhajpbenaaEntBa
import Derived.Test.YtoaoldhajpbenaaEntBp
import Derived.Test.YtoaoldhajpbenaaEntIn
namespace Go.Proofs.Ytoaoldhajpbenaa
open Go.RowKit Go.Shelf
attribute [local go_sem] Oper.semAt_some

/-! Plain. -/
def NoneIn (g : Lg) (n : Int) (y : Nat) : Prop := ∃ (h : y < g.parts.length) (f : Int) (l : List Ent), g.parts[y] = .run f l ∧ cfg f n l l.length = none
theorem cfg_all_none {n : Int} : ∀ {p t : Int} {rs : List (Int × List Ent)}, Chain p t rs → (∀ j (h : j < rs.length), cfg rs[j].1 n rs[j].2 rs[j].2.length = none) → cfg p n (allOf rs) (allOf rs).length = none
  | p, t, [], _, _ => rfl
  | p, t, (f, l) :: rs, ⟨h1, h2, h3, h4, h5⟩, h => by
    have h0 := h 0 (by simp)
    have ih := cfg_all_none h5 fun j hj => h (j + 1) (by simpa using hj)
    rw [allOf_cons, List.length_append, cfg_right p n l (allOf rs) _ (Nat.le_refl _)]
    subst h1
    simp only [List.getElem_cons_zero] at h0
    rw [ih, h0]; rfl
theorem run_of_none {g : Lg} {n : Int} {j : Nat} (hj : j < g.rs.length) (h : NoneIn g n (j + 1)) : cfg g.rs[j].1 n g.rs[j].2 g.rs[j].2.length = none := by
  obtain ⟨hy, f, l, hp, hc⟩ := h
  rw [g.parts_succ j hj] at hp
  injection hp with h1 h2
  subst h1 h2
  exact hc
theorem change_none {g : Lg} (hg : g.Good) {n : Int} (h : ∀ y, 0 < y → y < g.parts.length → NoneIn g n y) : g.change n = none := by
  refine cfg_all_none hg.chain fun j hj => run_of_none hj (h (j + 1) (by omega) (by rw [g.parts_length]; omega))
theorem change_some {g : Lg} (hg : g.Good) {n : Int} {x : Nat} (hx : x < g.parts.length) (h : ∀ y, x < y → y < g.parts.length → NoneIn g n y) {f : Int} {l : List Ent} (hp : g.parts[x] = .run f l) {z : Int × Int} (hc : cfg f n l l.length = some z) :
    g.change n = some z := by
  cases x with
  | zero => rw [g.parts_zero] at hp; cases hp
  | succ j =>
    have hj : j < g.rs.length := by have := g.parts_length; omega
    rw [g.parts_succ j hj] at hp
    injection hp with h1 h2
    subst h1 h2
    have hR : cfg (g.rs[j].1 + g.rs[j].2.length) n (allOf (g.rs.drop (j + 1))) (allOf (g.rs.drop (j + 1))).length = none := by
      refine cfg_all_none (hg.chain.from_ j hj) fun i hi => ?_
      have hi' : j + 1 + i < g.rs.length := by simp at hi; omega
      have := run_of_none hi' (h (j + 1 + i + 1) (by omega) (by rw [g.parts_length]; omega))
      simpa using this
    obtain ⟨c1, -⟩ := hg.chain.at j hj
    have hall := take_at g.rs j hj
    unfold Lg.change Lg.ents
    rw [hall, List.length_append, cfg_right _ _ _ _ _ (Nat.le_refl _), List.length_append, cfg_right _ _ _ _ _ (Nat.le_refl _), ← c1, hR, hc]
    rfl
theorem downTo_mem {len k y : Nat} (hk : k ≤ len) (h : len - k ≤ y) (hy : y < len) : y ∈ downTo len k := by
  simp only [downTo, List.mem_map, List.mem_range]
  exact ⟨len - 1 - y, by omega, by omega⟩
/-- All that has come, but for the last one, and that one. -/
theorem down_last {len k : Nat} {q : List (Fin len)} {x : Fin len} (hk : k ≤ len) (h : (q ++ [x]).map (·.1) = downTo len k) : ∀ y, x.1 < y → y < len → ∃ z ∈ q, z.1 = y := by
  cases k with
  | zero => simp [downTo] at h
  | succ k =>
    rw [downTo_succ, List.map_append] at h
    obtain ⟨h1, h2⟩ := List.append_inj' h (by simp)
    intro y hxy hy
    have hx : x.1 = len - 1 - k := by simpa using h2
    have := downTo_mem (len := len) (k := k) (y := y) (by omega) (by omega) hy
    rw [← h1] at this
    obtain ⟨z, hz, e⟩ := List.mem_map.1 this
    exact ⟨z, hz, e⟩

def changeV : Option (Int × Int) → Value
  | some x => .tuple #[.int .i64 x.1, .int .i64 x.2, .bool true]
  | none => .tuple #[.int .i64 0, .int .i64 0, .bool false]

theorem backward_stops (n : Nat) (hn : 1 ≤ n) (Bg n₀ pb po len pc : Nat) (fv : Nat → Value) (hpc : len ≤ pc) (hpm : pc ≤ maxLen) (hB0 : Bg < n₀) (hp0 : pb < n₀) (w : World) (hn₀ : n₀ ≤ w.heap.size)
    (hBg : w.cell? ⟨Bg, 0, none⟩ = some (.slice (some ⟨pb, po, none⟩) len pc)) (hc : ∀ i, i < len → w.cell? ⟨pb, po + i, none⟩ = some (fv i)) :
    SeqStopsK Fence.wide n Try.prog 101 #[.pointer (some ⟨Bg, 0, none⟩)] (fun x : Fin len => #[Value.int .i64 x.1, fv x.1]) (Below n₀) (fun ys => ys.map (·.1) = downTo len len) (fun pre => ∃ k, k ≤ len ∧ pre.map (·.1) = downTo len k) len w := fun l J Jx W hW hJ _ hY h0 => by
  have hsz := hW.size
  exact backward1_in n hn l Bg n₀ pb po len pc fv hpc hpm hB0 hp0 J Jx hY W hJ (by omega) ((hW.cell (p := ⟨Bg, 0, none⟩) (by show Bg < _; omega)).trans hBg) (fun i hi => (hW.cell (p := ⟨pb, po + i, none⟩) (by show pb < _; omega)).trans (hc i hi)) h0

/-- What holds when a round has left. -/
def ChIx (g : Lg) (n : Int) (w : World) (len : Nat) : Code → List (Fin len) → World → Prop
  | .ret, pre, W => (∃ (at_ m : Int), (Boxed W (w.heap.size + 1) 2 (.int .i64 at_) ∧ Boxed W (w.heap.size + 2) 3 (.int .i64 m) ∧ Boxed W (w.heap.size + 3) 4 (.bool true)) ∧
      ∃ q x, pre = q ++ [x] ∧ (∀ y ∈ q, NoneIn g n y.1) ∧ ∃ f l, (∃ h : x.1 < g.parts.length, g.parts[x.1] = .run f l) ∧ cfg f n l l.length = some (at_, m)) ∧ Below w.heap.size w W
  | .exit i, pre, W => (i = 0 ∧ (∃ u1 u2 u3, Boxed W (w.heap.size + 1) 2 u1 ∧ Boxed W (w.heap.size + 2) 3 u2 ∧ Boxed W (w.heap.size + 3) 4 u3) ∧ ∃ q x, pre = q ++ [x] ∧ (∀ y ∈ q, NoneIn g n y.1) ∧ ∃ h : x.1 < g.parts.length, g.parts[x.1] = .ground g.a g.t g.m) ∧ Below w.heap.size w W
  | _, _, _ => False
theorem chIx_own (g : Lg) (n : Int) (w : World) (len B : Nat) (hB : w.heap.size ≤ B) (c : Code) : OwnFrom B (ChIx g n w len c) := by
  intro s X Y row hs hg hr
  have hbx : ∀ {b : Nat} {t : TypeId} {v : Value}, Boxed X b t v → Boxed Y b t v := fun {b t v} h => (boxed_own (β := Unit) b t (fun _ => v)).from B () X Y row h hg hr
  have hbl : Below w.heap.size w X → Below w.heap.size w Y := fun h => ownFrom_below (β := Unit) (Nat.le_refl _) hB () X Y row h hg hr
  cases c with
  | ret => obtain ⟨⟨at_, m, ⟨h1, h2, h3⟩, h4⟩, h5⟩ := hs; exact ⟨⟨at_, m, ⟨hbx h1, hbx h2, hbx h3⟩, h4⟩, hbl h5⟩
  | exit i => obtain ⟨⟨h0, ⟨u1, u2, u3, h1, h2, h3⟩, h4⟩, h5⟩ := hs; exact ⟨⟨h0, ⟨u1, u2, u3, hbx h1, hbx h2, hbx h3⟩, h4⟩, hbl h5⟩
  | _ => exact hs

def ChIn (f n : Int) (L : List Ent) (W2 : World) (s : Value) (wr : World) : Prop := ∃ k : Nat, k ≤ L.length ∧ s = .int .i64 ((k : Int) - 1) ∧ cfg f n L L.length = cfg f n L k ∧ wr = W2

set_option maxRecDepth 100000 in
set_option maxHeartbeats 2000000 in
theorem change_in (d : Nat) (hd : 3 ≤ d) (p : Value) (g : Lg) (hg : g.Good) (n : Int) (hn : in64 n) (w : World) (hL : LogAt (· < w.heap.size) w p g.parts) :
    CallsIn Fence.wide d Try.prog 50 #[p, .int .i64 n] w fun e W' => e = .returned (changeV (g.change n)) ∧ Below w.heap.size w W' := by
  have h1 : 1 ≤ d := by omega
  have hfB : Fence.wide.fn 85 := trivial
  obtain ⟨b, sv, vs, rfl, hSb, hcell, hrow, hpc⟩ := hL
  obtain ⟨pb, po, pc, rfl, hpn, hpcm, hSp, hlt, hcells⟩ := hrow.form (by simp [Lg.parts])
  have hple := hg.parts_le
  have hplen := g.parts_length
  have hvl := hpc.length
  obtain ⟨fv, hfv⟩ : ∃ fv : Nat → Value, ∀ i, i < g.parts.length → vs[i]? = some (fv i) := ⟨fun i => (vs[i]?).getD undef, fun i hi => by simp [List.getElem?_eq_getElem (show i < vs.length by omega)]⟩
  have HF := Lib.hid hfv
  have HC := Lib.hid hcells
  have HP := Lib.hid hpc
  have HPL := Lib.hid hplen
  clear hfv hcells hpc hrow hvl hplen
  obtain ⟨len, hlen⟩ : ∃ len, g.parts.length = len := ⟨_, rfl⟩
  rw [hlen] at hpn hple
  have HL := Lib.hid hlen
  refine callsIn_of_wp_marks Try.func50 rfl trivial ?_ rfl
  simp only [Try.ntmps50, List.size_toArray, List.length_cons, List.length_nil, Nat.reduceAdd, Nat.reduceSub, Array.replicate_succ, Array.replicate_zero, List.push_toArray, List.append_toArray, List.nil_append, List.cons_append]
  rw [hlen] at hcell
  have hcell' : ∀ o1 o2 o3 o4, ((((w.alloc o1).alloc o2).alloc o3).alloc o4).cell? ⟨b, 0, none⟩ = some (.slice (some ⟨pb, po, none⟩) len pc) := fun o1 o2 o3 o4 => cell_keep (below_alloc (below_alloc (below_alloc (box_below w o1) o2) o3) o4) hcell
  clear hlen
  gi_wp2_with (gi_at_call 85; refine (backward_in (d - 1) _ _ _ _).mono ?_; rintro e w' ⟨rfl, rfl⟩)
  have z0 := ((((Boxed.new w 2 (.int .i64 n)).alloc (.cells #[.int .i64 0] 2)).alloc (.cells #[.int .i64 0] 3)).alloc (.cells #[.bool false] 4)).alloc (.cells #[.slice (some ⟨pb, po, none⟩) len pc] 86)
  have z1 := (((Boxed.new (w.alloc (.cells #[.int .i64 n] 2)) 2 (.int .i64 0)).alloc (.cells #[.int .i64 0] 3)).alloc (.cells #[.bool false] 4)).alloc (.cells #[.slice (some ⟨pb, po, none⟩) len pc] 86)
  have z2 := ((Boxed.new ((w.alloc (.cells #[.int .i64 n] 2)).alloc (.cells #[.int .i64 0] 2)) 3 (.int .i64 0)).alloc (.cells #[.bool false] 4)).alloc (.cells #[.slice (some ⟨pb, po, none⟩) len pc] 86)
  have z3 := (Boxed.new (((w.alloc (.cells #[.int .i64 n] 2)).alloc (.cells #[.int .i64 0] 2)).alloc (.cells #[.int .i64 0] 3)) 4 (.bool false)).alloc (.cells #[.slice (some ⟨pb, po, none⟩) len pc] 86)
  have z4 := Boxed.new ((((w.alloc (.cells #[.int .i64 n] 2)).alloc (.cells #[.int .i64 0] 2)).alloc (.cells #[.int .i64 0] 3)).alloc (.cells #[.bool false] 4)) 86 (.slice (some ⟨pb, po, none⟩) len pc)
  simp only [World.size_alloc] at z1 z2 z3 z4
  have hB0 : Below w.heap.size w (((((w.alloc (.cells #[.int .i64 n] 2)).alloc (.cells #[.int .i64 0] 2)).alloc (.cells #[.int .i64 0] 3)).alloc (.cells #[.bool false] 4)).alloc (.cells #[.slice (some ⟨pb, po, none⟩) len pc] 86)) :=
    below_alloc (below_alloc (below_alloc (below_alloc (box_below w _) _) _) _) _
  have hsz : (((((w.alloc (.cells #[.int .i64 n] 2)).alloc (.cells #[.int .i64 0] 2)).alloc (.cells #[.int .i64 0] 3)).alloc (.cells #[.bool false] 4)).alloc (.cells #[.slice (some ⟨pb, po, none⟩) len pc] 86)).heap.size = w.heap.size + 5 := by simp
  obtain ⟨W0, hW0⟩ : ∃ W0, ((((w.alloc (.cells #[.int .i64 n] 2)).alloc (.cells #[.int .i64 0] 2)).alloc (.cells #[.int .i64 0] 3)).alloc (.cells #[.bool false] 4)).alloc (.cells #[.slice (some ⟨pb, po, none⟩) len pc] 86) = W0 := ⟨_, rfl⟩
  rw [hW0] at z0 z1 z2 z3 z4 hB0 hsz ⊢
  clear hW0 hcell'
  have hfvc : ∀ i, i < len → w.cell? ⟨pb, po + i, none⟩ = some (fv i) := fun i hi => HC.out i _ (HF.out i (by rw [HL.out]; exact hi))
  have HFC := Lib.hid fun i hi => (hB0.cell (p := ⟨pb, po + i, none⟩) hlt).trans (hfvc i hi)
  clear hfvc
  refine wpIn_rangeFunc_ownG rfl h1 (gf := 101) (lb := #[.pointer (some ⟨w.heap.size + 1 + 1 + 1 + 1, 0, none⟩)]) rfl trivial (enters_of Try.func101 (by kernel_rfl) rfl)
    (backward_stops (d - 1) (by omega) (w.heap.size + 1 + 1 + 1 + 1) (w.heap.size + 5) pb po len pc fv hpn hpcm (by omega) (by omega) W0 (by omega) z4.cell HFC.out) belowK_t (belowK_b (by omega)) (Below.refl _ _) (fun _ => rfl)
    (fun pre W => (((∀ y ∈ pre, NoneIn g n y.1) ∧ Boxed W w.heap.size 2 (.int .i64 n)) ∧ (Boxed W (w.heap.size + 1) 2 (.int .i64 0) ∧ Boxed W (w.heap.size + 2) 3 (.int .i64 0) ∧ Boxed W (w.heap.size + 3) 4 (.bool false) ∧ Boxed W (w.heap.size + 4) 86 (.slice (some ⟨pb, po, none⟩) len pc))) ∧ Below w.heap.size w W)
    (ChIx g n w len)
    (OwnFrom.and (OwnFrom.and (OwnFrom.and (ownFrom_pure _ _) (Own.from (boxed_own _ _ _) _)) (OwnFrom.and (Own.from (boxed_own _ _ _) _) (OwnFrom.and (Own.from (boxed_own _ _ _) _) (OwnFrom.and (Own.from (boxed_own _ _ _) _) (Own.from (boxed_own _ _ _) _))))) (ownFrom_below (Nat.le_refl _) (by omega)))
    (fun c => chIx_own g n w len _ (by omega) c)
    ⟨⟨⟨by simp, z0⟩, z1, z2, z3, z4⟩, hB0⟩
    (fun x : Fin len => { tmps := #[.pointer (some ⟨b, 0, none⟩), .int .i64 n, undef, .pointer (some ⟨w.heap.size, 0, none⟩), .pointer (some ⟨w.heap.size + 1, 0, none⟩), .pointer (some ⟨w.heap.size + 1 + 1, 0, none⟩), .pointer (some ⟨w.heap.size + 1 + 1 + 1, 0, none⟩), undef, fv x.1, undef, undef, undef, undef, .pointer (some ⟨b, 0, none⟩), .pointer (some ⟨b, 0, none⟩), .pointer (some ⟨b, 0, none⟩), .slice (some ⟨pb, po, none⟩) len pc, .func (.func 101) #[] #[.pointer (some ⟨w.heap.size + 1 + 1 + 1 + 1, 0, none⟩)], .int .i64 x.1, fv x.1, undef, undef, undef, undef, undef, undef, undef, undef, undef, undef, undef, undef, undef, undef, undef, undef, undef, undef, undef, undef, undef, undef, undef, undef, undef, undef, undef, undef, undef, undef, undef, undef, undef, undef, undef, undef, undef, undef, undef, undef, undef], defers := [] }) ?assign ?body ?done ?stop
  case assign =>
    intro l x W K hK
    gi_wp2
    exact hK
  case body =>
    rintro l pre x W ⟨⟨⟨hno, bn⟩, b1, b2, b3, b4⟩, hB⟩ hlt2
    have hb4 := b4.lt
    have hcn := bn.cell
    have hc1 := b1.cell
    have hc2 := b2.cell
    have hc3 := b3.cell
    have hf1 := b1.frozen
    have hf2 := b2.frozen
    have hf3 := b3.frozen
    obtain ⟨xi, hxi⟩ := x
    have hpx : xi < g.parts.length := by rw [HL.out]; exact hxi
    obtain ⟨v, hv, hpv⟩ := HP.out.at xi hpx
    have hfx : fv xi = v := by have := HF.out xi hpx; rw [hv] at this; injection this with this; exact this.symm
    dsimp only
    rw [hfx]
    clear hfx hv
    cases xi with
    | zero =>
      rw [g.parts_zero] at hpv
      obtain rfl := hpv
      have Hno := Lib.hid hno
      clear hno
      gi_wp2
      exact ⟨(KeepsOthers.alloc _ _).from _, ⟨rfl, ⟨_, _, _, b1.alloc _, b2.alloc _, b3.alloc _⟩, pre, _, rfl, Hno.out, hpx, g.parts_zero⟩, below_alloc hB _⟩
    | succ j =>
      have hj : j < g.rs.length := by have := HPL.out; omega
      rw [g.parts_succ j hj] at hpv
      obtain ⟨sl, rfl, cs, hrl, hec⟩ := hpv
      obtain ⟨r1, r2, r3, r4⟩ := hg.run_ok j hj
      obtain ⟨rb, ro, rc, rfl, hrn, hrc, hSr, hrb, hrcell⟩ := hrl.form r3
      have hok : ∀ e ∈ g.rs[j].2, rightB e = true := fun e he => ((hg.chain.at j hj).2.2.1 e he).2
      have hpj := g.parts_succ j hj
      have Hno := Lib.hid hno
      have Hok := Lib.hid hok
      have Hpj := Lib.hid hpj
      have Hec := Lib.hid hec
      have Hrc := Lib.hid hrcell
      clear hno hrl hok hpj hec hrcell
      generalize g.rs[j].1 = f at *
      generalize g.rs[j].2 = L at *
      have hLL : L.length ≤ 4096 := r4
      have hLp : 0 < L.length := r3
      gi_wp2
      obtain ⟨y0, y1, -⟩ := cells2 (blk_new W (.cells #[.int .i64 f, .slice (some ⟨rb, ro, none⟩) L.length rc] 92))
      have hKO : KeepsOthers W (W.alloc (.cells #[.int .i64 f, .slice (some ⟨rb, ro, none⟩) L.length rc] 92)) := KeepsOthers.alloc _ _
      have hbW := box_below W (.cells #[.int .i64 f, .slice (some ⟨rb, ro, none⟩) L.length rc] 92)
      have e0 := bn.alloc (.cells #[.int .i64 f, .slice (some ⟨rb, ro, none⟩) L.length rc] 92)
      have e1 := b1.alloc (.cells #[.int .i64 f, .slice (some ⟨rb, ro, none⟩) L.length rc] 92)
      have e2 := b2.alloc (.cells #[.int .i64 f, .slice (some ⟨rb, ro, none⟩) L.length rc] 92)
      have e3 := b3.alloc (.cells #[.int .i64 f, .slice (some ⟨rb, ro, none⟩) L.length rc] 92)
      have e4 := b4.alloc (.cells #[.int .i64 f, .slice (some ⟨rb, ro, none⟩) L.length rc] 92)
      obtain ⟨W2, hW2⟩ : ∃ W2, W.alloc (.cells #[.int .i64 f, .slice (some ⟨rb, ro, none⟩) L.length rc] 92) = W2 := ⟨_, rfl⟩
      rw [hW2] at y0 y1 hKO hbW e0 e1 e2 e3 e4 ⊢
      clear hW2 hcn hc1 hc2 hc3 hf1 hf2 hf3
      have hcn := e0.cell
      have hc1 := e1.cell
      have hc2 := e2.cell
      have hc3 := e3.cell
      have hf1 := e1.frozen
      have hf2 := e2.frozen
      have hf3 := e3.frozen
      have hB2 := below_then hB hbW
      have hrc' : rc ≤ 9223372036854775807 := hrc
      gi_loopw [11] (fun s11 wr => ChIn f n L W2 s11 wr) (fun s11 _ => (intOf s11 + 1).toNat)
      case atStart => exact ⟨L.length, Nat.le_refl _, rfl, rfl, rfl⟩
      case round =>
        obtain ⟨k, hk, rfl, hcf, rfl⟩ := hrel
        have Hcf := Lib.hid hcf
        clear hcf
        cases k with
        | zero =>
          gi_wp2
          refine ⟨hKO.from _, hbW.mono (by omega), ⟨⟨?_, e0⟩, e1, e2, e3, e4⟩, hB2⟩
          intro y hy
          rcases List.mem_append.1 hy with hy | hy
          · exact Hno.out y hy
          · simp at hy; subst hy
            exact ⟨hpx, f, L, Hpj.out, by rw [Hcf.out]; rfl⟩
        | succ i =>
          have hiL : i < L.length := hk
          have hiL2 : (i : Int) < (L.length : Int) := by omega
          have hi0 : ((i + 1 : Nat) : Int) - 1 = i := by omega
          rw [hi0]
          obtain ⟨cv, ec0, ec1, ec2, -, -, hby⟩ := Hec.out.at i hiL
          have k0 : wr.cell? ⟨rb, ro + i * 3, none⟩ = some (.int .i64 L[i].kind) := cell_keep hB2 (Hrc.out _ _ ec0)
          have k2 : wr.cell? ⟨rb, ro + i * 3 + 2, none⟩ = some cv := by rw [Nat.add_assoc]; exact cell_keep hB2 (Hrc.out _ _ ec2)
          have hstep := cfg_succ (p := f) (n := n) (es := L) hiL
          rw [← Hcf.out] at hstep
          have Hst := Lib.hid hstep
          clear hi0 hstep ec0 ec1 ec2
          by_cases hA : f + i ≤ n
          · by_cases hK : L[i].kind = 2
            · have hr := Hok.out L[i] (List.getElem_mem hiL)
              have hl1 : L[i].cmd.length = 1 := by
                simp only [rightB, Bool.and_eq_true, Bool.or_eq_true, decide_eq_true_eq, hK] at hr
                omega
              obtain ⟨c, hcm⟩ := List.length_eq_one_iff.1 hl1
              obtain ⟨cb, co, cc, rfl, hcn1, hcc1, -, hcb, hccell⟩ := RowAt.form hby (by omega)
              have kc : wr.cell? ⟨cb, co, none⟩ = some (.int .u8 c.toNat) := by
                have := cell_keep hB2 (hccell 0 _ (byteCells_get L[i].cmd 0 (by omega)))
                simpa [hcm] using this
              have hmask : L[i].mask = (c.toNat : Int) := by simp [Ent.mask, hcm]
              have hst := Hst.out
              rw [if_pos ⟨hA, hK⟩, hmask] at hst
              have Hfin := Lib.hid hst
              have hc8 := c.toNat_lt
              rw [hl1] at k2
              rw [hK] at k0
              clear hst hr hl1 hcm hmask hccell hK hby
              gi_wp2
              have hx : KeepsFrom W0.heap.size W (((wr.setCell ⟨w.heap.size + 1, 0, none⟩ (.int .i64 (f + i))).setCell ⟨w.heap.size + 1 + 1, 0, none⟩ (.int .i64 c.toNat)).setCell ⟨w.heap.size + 1 + 1 + 1, 0, none⟩ (.bool true)).drew ∧
                  ChIx g n w len .ret (pre ++ [⟨j + 1, hxi⟩]) (((wr.setCell ⟨w.heap.size + 1, 0, none⟩ (.int .i64 (f + i))).setCell ⟨w.heap.size + 1 + 1, 0, none⟩ (.int .i64 c.toNat)).setCell ⟨w.heap.size + 1 + 1 + 1, 0, none⟩ (.bool true)).drew := by
                refine ⟨(hKO.trans ((KeepsOthers.setCell _ _ _).trans ((KeepsOthers.setCell _ _ _).trans ((KeepsOthers.setCell _ _ _).trans (KeepsOthers.drew _))))).from _, ⟨⟨f + i, c.toNat, ⟨?_, ?_, ?_⟩, pre, ⟨j + 1, hxi⟩, rfl, Hno.out, f, L, ⟨hpx, Hpj.out⟩, Hfin.out⟩, ?_⟩⟩
                · exact ((e1.set (.int .i64 (f + i))).other (B' := w.heap.size + 1 + 1) (by omega) _).other (B' := w.heap.size + 1 + 1 + 1) (by omega) _
                · exact ((e2.other (B' := w.heap.size + 1) (by omega) _).set (.int .i64 c.toNat)).other (B' := w.heap.size + 1 + 1 + 1) (by omega) _
                · exact ((e3.other (B' := w.heap.size + 1) (by omega) _).other (B' := w.heap.size + 1 + 1) (by omega) _).set (.bool true)
                · exact (((hB2.setCell (p := ⟨w.heap.size + 1, 0, none⟩) (by simp) _).setCell (p := ⟨w.heap.size + 1 + 1, 0, none⟩) (by simp; omega) _).setCell (p := ⟨w.heap.size + 1 + 1 + 1, 0, none⟩) (by simp; omega) _).drew
              have HX := Lib.hid hx
              have ew : IntKind.i64.wrap (c.toNat : Int) = c.toNat := IntWalk.i64_in _ (by omega)
              have n1 : ¬ w.heap.size + 1 = rb := by omega
              have n2 : ¬ w.heap.size + 1 = cb := by have : cb < w.heap.size := hcb; omega
              have n3 : ¬ w.heap.size + 1 = W.heap.size := by omega
              have m1 : ¬ rb = w.heap.size + 1 := by omega
              have m2 : ¬ cb = w.heap.size + 1 := by have : cb < w.heap.size := hcb; omega
              have m3 : ¬ W.heap.size = w.heap.size + 1 := by omega
              clear hx
              have hmx : Try.prog.follows .mixedOrders = true := by kernel_rfl
              refine wpIn_region_any hmx ?_
              refine wpAnyIn_inRound (F := Fence.wide) l (by kernel_rfl) _ _ _ _ ?_
              change wpAnyIn _ _ _ _ _ _ _ _ _ (World.drew _)
              refine wpAnyIn_take (i := 0) (v := ?_) rfl rfl (by kernel_rfl) (by kernel_rfl) (by kernel_rfl) (fun _ _ _ h => h) ⟨Or.inl ⟨by rfl, ?_⟩, fun _ => rfl⟩ ?_
              rotate_left
              · intro w
                go_simp
                with_reducible rfl
              refine wpAnyIn_take (i := 1) (v := ?_) rfl rfl (by kernel_rfl) (by kernel_rfl) (by kernel_rfl) (fun _ _ _ h => h) ⟨Or.inl ⟨by rfl, ?_⟩, fun _ => rfl⟩ ?_
              rotate_left
              · intro w
                go_simp
                with_reducible rfl
              refine wpAnyIn_take (i := 3) (v := ?_) rfl rfl (by kernel_rfl) (by kernel_rfl) (by kernel_rfl) (fun _ _ _ h => h) ⟨Or.inl ⟨by rfl, ?_⟩, fun _ => rfl⟩ ?_
              rotate_left
              · intro w
                go_simp
                with_reducible rfl
              refine wpAnyIn_ready (rs := [2, 10]) (by kernel_rfl) (by simp) (AllReadyIn.cons rfl (fun K hK => ?_) (AllReadyIn.cons rfl (fun K hK => ?_) AllReadyIn.nil))
              rotate_left
              · go_simp
                refine hK _ _ ?_
                clear hK K
                refine wpAnyIn_ready (rs := [2]) (by kernel_rfl) (by simp) (AllReadyIn.cons rfl (fun K hK => ?_) AllReadyIn.nil)
                go_simp
                refine hK _ _ ?_
                clear hK K
                refine wpAnyIn_ready (rs := [4]) (by kernel_rfl) (by simp) (AllReadyIn.cons rfl (fun K hK => ?_) AllReadyIn.nil)
                go_simp
                refine hK _ _ ?_
                clear hK K
                refine wpAnyIn_ready (rs := [5]) (by kernel_rfl) (by simp) (AllReadyIn.cons rfl (fun K hK => ?_) AllReadyIn.nil)
                go_simp
                refine hK _ _ ?_
                clear hK K
                refine wpAnyIn_ready (rs := [6]) (by kernel_rfl) (by simp) (AllReadyIn.cons rfl (fun K hK => ?_) AllReadyIn.nil)
                go_simp
                refine hK _ _ ?_
                clear hK K
                refine wpAnyIn_ready (rs := [7]) (by kernel_rfl) (by simp) (AllReadyIn.cons rfl (fun K hK => ?_) AllReadyIn.nil)
                go_simp
                refine hK _ _ ?_
                clear hK K
                refine wpAnyIn_ready (rs := [8]) (by kernel_rfl) (by simp) (AllReadyIn.cons rfl (fun K hK => ?_) AllReadyIn.nil)
                go_simp
                refine hK _ _ ?_
                clear hK K
                refine wpAnyIn_ready (rs := [9]) (by kernel_rfl) (by simp) (AllReadyIn.cons rfl (fun K hK => ?_) AllReadyIn.nil)
                go_simp
                refine hK _ _ ?_
                clear hK K
                refine wpAnyIn_ready (rs := [11]) (by kernel_rfl) (by simp) (AllReadyIn.cons rfl (fun K hK => ?_) AllReadyIn.nil)
                go_simp
                refine hK _ _ ?_
                clear hK K
                refine wpAnyIn_ready (rs := [12]) (by kernel_rfl) (by simp) (AllReadyIn.cons rfl (fun K hK => ?_) AllReadyIn.nil)
                go_simp
                refine hK _ _ ?_
                clear hK K
                refine wpAnyIn_done (by kernel_rfl) ?_ _
                gi_wp2
                exact HX.out
              go_simp
              refine hK _ _ ?_
              clear hK K
              refine wpAnyIn_ready (rs := [4, 10]) (by kernel_rfl) (by simp) (AllReadyIn.cons rfl (fun K hK => ?_) (AllReadyIn.cons rfl (fun K hK => ?_) AllReadyIn.nil))
              rotate_left
              · go_simp
                refine hK _ _ ?_
                clear hK K
                refine wpAnyIn_ready (rs := [4]) (by kernel_rfl) (by simp) (AllReadyIn.cons rfl (fun K hK => ?_) AllReadyIn.nil)
                go_simp
                refine hK _ _ ?_
                clear hK K
                refine wpAnyIn_ready (rs := [5]) (by kernel_rfl) (by simp) (AllReadyIn.cons rfl (fun K hK => ?_) AllReadyIn.nil)
                go_simp
                refine hK _ _ ?_
                clear hK K
                refine wpAnyIn_ready (rs := [6]) (by kernel_rfl) (by simp) (AllReadyIn.cons rfl (fun K hK => ?_) AllReadyIn.nil)
                go_simp
                refine hK _ _ ?_
                clear hK K
                refine wpAnyIn_ready (rs := [7]) (by kernel_rfl) (by simp) (AllReadyIn.cons rfl (fun K hK => ?_) AllReadyIn.nil)
                go_simp
                refine hK _ _ ?_
                clear hK K
                refine wpAnyIn_ready (rs := [8]) (by kernel_rfl) (by simp) (AllReadyIn.cons rfl (fun K hK => ?_) AllReadyIn.nil)
                go_simp
                refine hK _ _ ?_
                clear hK K
                refine wpAnyIn_ready (rs := [9]) (by kernel_rfl) (by simp) (AllReadyIn.cons rfl (fun K hK => ?_) AllReadyIn.nil)
                go_simp
                refine hK _ _ ?_
                clear hK K
                refine wpAnyIn_ready (rs := [11]) (by kernel_rfl) (by simp) (AllReadyIn.cons rfl (fun K hK => ?_) AllReadyIn.nil)
                go_simp
                refine hK _ _ ?_
                clear hK K
                refine wpAnyIn_ready (rs := [12]) (by kernel_rfl) (by simp) (AllReadyIn.cons rfl (fun K hK => ?_) AllReadyIn.nil)
                go_simp
                refine hK _ _ ?_
                clear hK K
                refine wpAnyIn_done (by kernel_rfl) ?_ _
                gi_wp2
                exact HX.out
              go_simp
              refine hK _ _ ?_
              clear hK K
              refine wpAnyIn_ready (rs := [5, 10]) (by kernel_rfl) (by simp) (AllReadyIn.cons rfl (fun K hK => ?_) (AllReadyIn.cons rfl (fun K hK => ?_) AllReadyIn.nil))
              rotate_left
              · go_simp
                refine hK _ _ ?_
                clear hK K
                refine wpAnyIn_ready (rs := [5]) (by kernel_rfl) (by simp) (AllReadyIn.cons rfl (fun K hK => ?_) AllReadyIn.nil)
                go_simp
                refine hK _ _ ?_
                clear hK K
                refine wpAnyIn_ready (rs := [6]) (by kernel_rfl) (by simp) (AllReadyIn.cons rfl (fun K hK => ?_) AllReadyIn.nil)
                go_simp
                refine hK _ _ ?_
                clear hK K
                refine wpAnyIn_ready (rs := [7]) (by kernel_rfl) (by simp) (AllReadyIn.cons rfl (fun K hK => ?_) AllReadyIn.nil)
                go_simp
                refine hK _ _ ?_
                clear hK K
                refine wpAnyIn_ready (rs := [8]) (by kernel_rfl) (by simp) (AllReadyIn.cons rfl (fun K hK => ?_) AllReadyIn.nil)
                go_simp
                refine hK _ _ ?_
                clear hK K
                refine wpAnyIn_ready (rs := [9]) (by kernel_rfl) (by simp) (AllReadyIn.cons rfl (fun K hK => ?_) AllReadyIn.nil)
                go_simp
                refine hK _ _ ?_
                clear hK K
                refine wpAnyIn_ready (rs := [11]) (by kernel_rfl) (by simp) (AllReadyIn.cons rfl (fun K hK => ?_) AllReadyIn.nil)
                go_simp
                refine hK _ _ ?_
                clear hK K
                refine wpAnyIn_ready (rs := [12]) (by kernel_rfl) (by simp) (AllReadyIn.cons rfl (fun K hK => ?_) AllReadyIn.nil)
                go_simp
                refine hK _ _ ?_
                clear hK K
                refine wpAnyIn_done (by kernel_rfl) ?_ _
                gi_wp2
                exact HX.out
              go_simp
              refine hK _ _ ?_
              clear hK K
              refine wpAnyIn_ready (rs := [6, 10]) (by kernel_rfl) (by simp) (AllReadyIn.cons rfl (fun K hK => ?_) (AllReadyIn.cons rfl (fun K hK => ?_) AllReadyIn.nil))
              rotate_left
              · go_simp
                refine hK _ _ ?_
                clear hK K
                refine wpAnyIn_ready (rs := [6]) (by kernel_rfl) (by simp) (AllReadyIn.cons rfl (fun K hK => ?_) AllReadyIn.nil)
                go_simp
                refine hK _ _ ?_
                clear hK K
                refine wpAnyIn_ready (rs := [7]) (by kernel_rfl) (by simp) (AllReadyIn.cons rfl (fun K hK => ?_) AllReadyIn.nil)
                go_simp
                refine hK _ _ ?_
                clear hK K
                refine wpAnyIn_ready (rs := [8]) (by kernel_rfl) (by simp) (AllReadyIn.cons rfl (fun K hK => ?_) AllReadyIn.nil)
                go_simp
                refine hK _ _ ?_
                clear hK K
                refine wpAnyIn_ready (rs := [9]) (by kernel_rfl) (by simp) (AllReadyIn.cons rfl (fun K hK => ?_) AllReadyIn.nil)
                go_simp
                refine hK _ _ ?_
                clear hK K
                refine wpAnyIn_ready (rs := [11]) (by kernel_rfl) (by simp) (AllReadyIn.cons rfl (fun K hK => ?_) AllReadyIn.nil)
                go_simp
                refine hK _ _ ?_
                clear hK K
                refine wpAnyIn_ready (rs := [12]) (by kernel_rfl) (by simp) (AllReadyIn.cons rfl (fun K hK => ?_) AllReadyIn.nil)
                go_simp
                refine hK _ _ ?_
                clear hK K
                refine wpAnyIn_done (by kernel_rfl) ?_ _
                gi_wp2
                exact HX.out
              go_simp
              refine hK _ _ ?_
              clear hK K
              refine wpAnyIn_ready (rs := [7, 10]) (by kernel_rfl) (by simp) (AllReadyIn.cons rfl (fun K hK => ?_) (AllReadyIn.cons rfl (fun K hK => ?_) AllReadyIn.nil))
              rotate_left
              · go_simp
                refine hK _ _ ?_
                clear hK K
                refine wpAnyIn_ready (rs := [7]) (by kernel_rfl) (by simp) (AllReadyIn.cons rfl (fun K hK => ?_) AllReadyIn.nil)
                go_simp
                refine hK _ _ ?_
                clear hK K
                refine wpAnyIn_ready (rs := [8]) (by kernel_rfl) (by simp) (AllReadyIn.cons rfl (fun K hK => ?_) AllReadyIn.nil)
                go_simp
                refine hK _ _ ?_
                clear hK K
                refine wpAnyIn_ready (rs := [9]) (by kernel_rfl) (by simp) (AllReadyIn.cons rfl (fun K hK => ?_) AllReadyIn.nil)
                go_simp
                refine hK _ _ ?_
                clear hK K
                refine wpAnyIn_ready (rs := [11]) (by kernel_rfl) (by simp) (AllReadyIn.cons rfl (fun K hK => ?_) AllReadyIn.nil)
                go_simp
                refine hK _ _ ?_
                clear hK K
                refine wpAnyIn_ready (rs := [12]) (by kernel_rfl) (by simp) (AllReadyIn.cons rfl (fun K hK => ?_) AllReadyIn.nil)
                go_simp
                refine hK _ _ ?_
                clear hK K
                refine wpAnyIn_done (by kernel_rfl) ?_ _
                gi_wp2
                exact HX.out
              go_simp
              refine hK _ _ ?_
              clear hK K
              refine wpAnyIn_ready (rs := [8, 10]) (by kernel_rfl) (by simp) (AllReadyIn.cons rfl (fun K hK => ?_) (AllReadyIn.cons rfl (fun K hK => ?_) AllReadyIn.nil))
              rotate_left
              · go_simp
                refine hK _ _ ?_
                clear hK K
                refine wpAnyIn_ready (rs := [8]) (by kernel_rfl) (by simp) (AllReadyIn.cons rfl (fun K hK => ?_) AllReadyIn.nil)
                go_simp
                refine hK _ _ ?_
                clear hK K
                refine wpAnyIn_ready (rs := [9]) (by kernel_rfl) (by simp) (AllReadyIn.cons rfl (fun K hK => ?_) AllReadyIn.nil)
                go_simp
                refine hK _ _ ?_
                clear hK K
                refine wpAnyIn_ready (rs := [11]) (by kernel_rfl) (by simp) (AllReadyIn.cons rfl (fun K hK => ?_) AllReadyIn.nil)
                go_simp
                refine hK _ _ ?_
                clear hK K
                refine wpAnyIn_ready (rs := [12]) (by kernel_rfl) (by simp) (AllReadyIn.cons rfl (fun K hK => ?_) AllReadyIn.nil)
                go_simp
                refine hK _ _ ?_
                clear hK K
                refine wpAnyIn_done (by kernel_rfl) ?_ _
                gi_wp2
                exact HX.out
              go_simp
              refine hK _ _ ?_
              clear hK K
              refine wpAnyIn_ready (rs := [9, 10]) (by kernel_rfl) (by simp) (AllReadyIn.cons rfl (fun K hK => ?_) (AllReadyIn.cons rfl (fun K hK => ?_) AllReadyIn.nil))
              rotate_left
              · go_simp
                refine hK _ _ ?_
                clear hK K
                refine wpAnyIn_ready (rs := [9]) (by kernel_rfl) (by simp) (AllReadyIn.cons rfl (fun K hK => ?_) AllReadyIn.nil)
                go_simp
                refine hK _ _ ?_
                clear hK K
                refine wpAnyIn_ready (rs := [11]) (by kernel_rfl) (by simp) (AllReadyIn.cons rfl (fun K hK => ?_) AllReadyIn.nil)
                go_simp
                refine hK _ _ ?_
                clear hK K
                refine wpAnyIn_ready (rs := [12]) (by kernel_rfl) (by simp) (AllReadyIn.cons rfl (fun K hK => ?_) AllReadyIn.nil)
                go_simp
                refine hK _ _ ?_
                clear hK K
                refine wpAnyIn_done (by kernel_rfl) ?_ _
                gi_wp2
                exact HX.out
              go_simp
              refine hK _ _ ?_
              clear hK K
              refine wpAnyIn_ready (rs := [10]) (by kernel_rfl) (by simp) (AllReadyIn.cons rfl (fun K hK => ?_) AllReadyIn.nil)
              go_simp
              refine hK _ _ ?_
              clear hK K
              refine wpAnyIn_ready (rs := [11]) (by kernel_rfl) (by simp) (AllReadyIn.cons rfl (fun K hK => ?_) AllReadyIn.nil)
              go_simp
              refine hK _ _ ?_
              clear hK K
              refine wpAnyIn_ready (rs := [12]) (by kernel_rfl) (by simp) (AllReadyIn.cons rfl (fun K hK => ?_) AllReadyIn.nil)
              go_simp
              refine hK _ _ ?_
              clear hK K
              refine wpAnyIn_done (by kernel_rfl) ?_ _
              gi_wp2
              exact HX.out
            · have hst := Hst.out
              rw [if_neg (fun h => hK h.2)] at hst
              have Hfin := Lib.hid hst
              have hKb : (L[i].kind == 2) = false := by simpa using hK
              clear hst hK
              gi_wp2
              go_roundw
              case rel => exact ⟨i, by omega, rfl, Hfin.out, rfl⟩
              case measure => (simp [intOf] <;> omega)
          · have hst := Hst.out
            rw [if_neg (fun h => hA h.1)] at hst
            have Hfin := Lib.hid hst
            have hA' : n < f + i := by omega
            clear hst hA
            gi_wp2
            go_roundw
            case rel => exact ⟨i, by omega, rfl, Hfin.out, rfl⟩
            case measure => (simp [intOf] <;> omega)
  case done =>
    rintro D ys W hD hys ⟨⟨⟨hno, -⟩, -⟩, hB⟩ hK
    exfalso
    have hl0 : 0 < len := by have := HPL.out; have := HL.out; omega
    have := downTo_mem (len := len) (k := len) (y := 0) (Nat.le_refl _) (by omega) hl0
    rw [← hys] at this
    obtain ⟨z, hz, e⟩ := List.mem_map.1 this
    obtain ⟨hz0, f, l, hp, -⟩ := hno z hz
    simp only [e] at hp
    rw [g.parts_zero] at hp
    cases hp
  case stop =>
    rintro D c pre W hD ⟨k, hk, hpre⟩ hIx hK
    cases c with
    | ret =>
      obtain ⟨⟨at_, m, ⟨b1, b2, b3⟩, q, x, rfl, hq, f, l, ⟨hx, hp⟩, hc⟩, hB⟩ := hIx
      have hch : g.change n = some (at_, m) := change_some hg hx (fun y hxy hy => by
        obtain ⟨z, hz, rfl⟩ := down_last hk hpre y hxy (by have := HL.out; omega)
        exact hq z hz) hp hc
      have Hch := Lib.hid hch
      have hK' := hK
      clear hch hq hc hpre
      gi_wp2
      refine ⟨by simp, .inl ⟨_, _, rfl, run_takeDeferred hK', ?_⟩⟩
      have r1 := cell_kept b1.cell (grownBy_putObj' _ D (.deferred none)) (fun r e => by cases e; exact ⟨_, hK', rfl⟩)
      have r2 := cell_kept b2.cell (grownBy_putObj' _ D (.deferred none)) (fun r e => by cases e; exact ⟨_, hK', rfl⟩)
      have r3 := cell_kept b3.cell (grownBy_putObj' _ D (.deferred none)) (fun r e => by cases e; exact ⟨_, hK', rfl⟩)
      refine ⟨.tuple #[.int .i64 at_, .int .i64 m, .bool true], ?_, by rw [Hch.out]; rfl, hB.trans (belowK_b (w := w) (Nat.le_refl _) _ D _ _ (by omega) hK' rfl rfl)⟩
      simp [results, Try.f50, go_sem, r1, r2, r3]
    | exit i =>
      obtain ⟨⟨rfl, ⟨u1, u2, u3, b1, b2, b3⟩, q, x, rfl, hq, hx, hp⟩, hB⟩ := hIx
      have hx0 : x.1 = 0 := by
        rcases Nat.eq_zero_or_pos x.1 with h0 | h0
        · exact h0
        · obtain ⟨y, hy⟩ : ∃ y, x.1 = y + 1 := ⟨x.1 - 1, by omega⟩
          simp only [hy] at hp
          rw [g.parts_succ y (by have := HPL.out; omega)] at hp
          cases hp
      have hch : g.change n = none := change_none hg (fun y h0 hy => by
        obtain ⟨z, hz, rfl⟩ := down_last hk hpre y (by omega) (by have := HL.out; omega)
        exact hq z hz)
      have Hch := Lib.hid hch
      have hc1 := b1.cell
      have hc2 := b2.cell
      have hc3 := b3.cell
      have hf1 := b1.frozen
      have hf2 := b2.frozen
      have hf3 := b3.frozen
      clear hch hq hpre hp
      gi_wp2
      have hK' := ((KeepsOthers.setCell W ⟨w.heap.size + 1, 0, none⟩ (.int .i64 0)).trans ((KeepsOthers.setCell _ ⟨w.heap.size + 2, 0, none⟩ (.int .i64 0)).trans (KeepsOthers.setCell _ ⟨w.heap.size + 3, 0, none⟩ (.bool false)))).same D _ hK rfl
      refine ⟨by simp, .inl ⟨_, _, rfl, run_takeDeferred hK', ?_⟩⟩
      have x1 := ((b1.set (.int .i64 0)).other (B' := w.heap.size + 2) (by omega) (.int .i64 0)).other (B' := w.heap.size + 3) (by omega) (.bool false)
      have x2 := ((b2.other (B' := w.heap.size + 1) (by omega) (.int .i64 0)).set (.int .i64 0)).other (B' := w.heap.size + 3) (by omega) (.bool false)
      have x3 := ((b3.other (B' := w.heap.size + 1) (by omega) (.int .i64 0)).other (B' := w.heap.size + 2) (by omega) (.int .i64 0)).set (.bool false)
      have r1 := cell_kept x1.cell (grownBy_putObj' _ D (.deferred none)) (fun r e => by cases e; exact ⟨_, hK', rfl⟩)
      have r2 := cell_kept x2.cell (grownBy_putObj' _ D (.deferred none)) (fun r e => by cases e; exact ⟨_, hK', rfl⟩)
      have r3 := cell_kept x3.cell (grownBy_putObj' _ D (.deferred none)) (fun r e => by cases e; exact ⟨_, hK', rfl⟩)
      refine ⟨.tuple #[.int .i64 0, .int .i64 0, .bool false], ?_, by rw [Hch.out]; rfl, (((hB.setCell (p := ⟨w.heap.size + 1, 0, none⟩) (by simp) _).setCell (p := ⟨w.heap.size + 2, 0, none⟩) (by simp) _).setCell (p := ⟨w.heap.size + 3, 0, none⟩) (by simp) _).trans (belowK_b (w := w) (Nat.le_refl _) _ D _ _ (by omega) hK' rfl rfl)⟩
      simp [results, Try.f50, go_sem, r1, r2, r3]
    | _ => exact hIx.elim
end Go.Proofs.Ytoaoldhajpbenaa
