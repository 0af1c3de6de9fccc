/- 'Members', 'Change', 'Over'. No statement is proved here. -/
import Derived.Test.YtoaoldhajpbenaaEntBc
import Derived.Test.YtoaoldhajpbenaaEntAB
namespace Go.Proofs.Ytoaoldhajpbenaa
open Go.RowKit
attribute [local go_sem ↓] Go.wp_at_zero Go.wp_at_succ

theorem change_call {S : Nat → Prop} (p : Value) (g : Lg) (hg : g.Good) (n : Int) (hn : in64 n) (w : World) (hL : LogAt S w p g.parts) :
    Calls Try.prog 50 #[p, .int .i64 n] w fun e w' => e = .returned (changeV (g.change n)) ∧ Below w.heap.size w w' :=
  callsIn_wide.1 (change_in 3 (by decide) p g hg n hn w (hL.mono fun b hb _ => hb))

def chPlace : Option (Int × Int) → Int
  | some x => x.1
  | none => 0
def chMask (m : Int) : Option (Int × Int) → Int
  | some x => x.2
  | none => m
def changeAt (g : Lg) : Int := chPlace (g.change 1099511631872)
theorem memAt_in {g : Lg} {n : Int} (h1 : g.a ≤ n) (h2 : n ≤ g.top) : g.memAt n = chMask g.m (g.change n) := by
  unfold Lg.memAt
  rw [if_neg (by omega)]
  cases g.change n <;> rfl

set_option maxHeartbeats 1000000 in
theorem change_any {S : Nat → Prop} (p : Value) (g : Lg) (w : World) (h : LogAt S w p g.parts) (hg : g.Good) :
    Calls Try.prog 25 #[p] w fun e w' => e = .returned (.int .i64 (changeAt g)) ∧ Below w.heap.size w w' := by
  have hc := Lib.hid (change_call p g hg 1099511631872 ⟨by omega, by omega⟩ w h)
  obtain ⟨b, sv, vs, rfl, -⟩ := h
  obtain ⟨o, ho⟩ : ∃ o, g.change 1099511631872 = o := ⟨_, rfl⟩
  have Hr := Lib.hid (show changeAt g = chPlace o by unfold changeAt; rw [ho])
  have Ho := Lib.hid ho
  clear ho
  go_enter Try.func25, Try.ntmps25
  go_wp2_with fail
  refine hc.out.mono ?_
  rintro _ w1 ⟨rfl, hb⟩
  rw [Ho.out]
  cases o with
  | none =>
    unfold changeV
    go_wp2_with fail
    go_ret
    exact ⟨by rw [Hr.out]; rfl, hb⟩
  | some x =>
    unfold changeV
    go_wp2_with fail
    go_ret
    exact ⟨by rw [Hr.out]; rfl, hb⟩

set_option maxHeartbeats 1000000 in
theorem members_any {S : Nat → Prop} (p : Value) (g : Lg) (n : Int) (hn : in64 n) (w : World) (h : LogAt S w p g.parts) (hg : g.Good) :
    Calls Try.prog 21 #[p, .int .i64 n] w fun e w' => e = .returned (.int .i64 (g.memAt n)) ∧ Below w.heap.size w w' := by
  have Hf := Lib.hid (find_lg p g n w h hg)
  have Hc := Lib.hid fun W (hb : Below w.heap.size w W) => change_call p g hg n hn W (h.keep hb)
  have Hg := Lib.hid fun W (hb : Below w.heap.size w W) => ground_any p g W (h.keep hb)
  obtain ⟨b, sv, vs, rfl, -⟩ := h
  go_enter Try.func21, Try.ntmps21
  go_wp2_with fail
  refine Hf.out.mono ?_
  rintro e w1 ⟨hp, hb⟩
  rcases hp with ⟨i, hi, v, hh, -, hv, rfl⟩ | ⟨hno, rfl⟩
  · have hin : g.a ≤ n ∧ n ≤ g.top := by
      rcases hg.part hi hh with ⟨-, rfl⟩ | ⟨j, hj, -, h1, h2, -⟩
      · exact ⟨Int.le_refl _, by unfold Lg.top; omega⟩
      · omega
    have hm := memAt_in hin.1 hin.2
    have Hm := Lib.hid hm
    clear hm
    have hvi : ∃ T u, v = .iface T u := by
      cases hq : g.parts[i] with
      | ground a t m => rw [hq] at hv; exact ⟨_, _, hv⟩
      | run f l => rw [hq] at hv; obtain ⟨sv, hv, -⟩ := hv; exact ⟨_, _, hv⟩
    obtain ⟨T, u, rfl⟩ := hvi
    clear hv hh
    go_wp2_with fail
    refine (Hc.out w1 hb).mono ?_
    rintro _ w2 ⟨rfl, hb2⟩
    obtain ⟨o, ho⟩ : ∃ o, g.change n = o := ⟨_, rfl⟩
    rw [ho]
    have Ho := Lib.hid ho
    clear ho
    cases o with
    | none =>
      unfold changeV
      go_wp2_with (go_at_call 48; refine (Hg.out _ (below_then hb hb2)).mono ?_; rintro _ w3 ⟨rfl, hb3⟩)
      go_ret
      exact ⟨by rw [Hm.out, Ho.out]; rfl, below_then (below_then hb hb2) hb3⟩
    | some x =>
      unfold changeV
      go_wp2_with fail
      go_ret
      exact ⟨by rw [Hm.out, Ho.out]; rfl, below_then hb hb2⟩
  · have hno' := hg.noPart fun j hj => hno j hj hj
    have Hm := Lib.hid (show g.memAt n = 0 by unfold Lg.memAt; rw [if_pos hno'])
    clear hno hno'
    go_wp2_with fail
    go_ret
    exact ⟨by rw [Hm.out]; rfl, hb⟩

theorem over_none {S : Nat → Prop} (p : Value) (g : Lg) (n : Int) (w : World) (h : LogAt S w p g.parts) (hg : g.Good) (hn : n < g.a ∨ g.top < n) :
    Calls Try.prog 20 #[p, .int .i64 n] w fun e w' => e = .returned (.tuple #[.pointer none, .int .i64 1]) ∧ Below w.heap.size w w' := by
  have Hf := Lib.hid (find_lg p g n w h hg)
  obtain ⟨b, sv, vs, rfl, -⟩ := h
  go_enter Try.func20, Try.ntmps20
  go_wp2_with fail
  refine Hf.out.mono ?_
  rintro e w1 ⟨hp, hb⟩
  rcases hp with ⟨i, hi, v, hh, -, hv, rfl⟩ | ⟨hno, rfl⟩
  · exfalso
    rcases hg.part hi hh with ⟨-, rfl⟩ | ⟨j, hj, -, h1, h2, -⟩
    · unfold Lg.top at hn; omega
    · omega
  · clear hno
    go_wp2_with fail
    go_ret2
    exact ⟨rfl, hb⟩

/-- The new log: its row and what its parts are. -/
theorem over_log {S : Nat → Prop} {w w7 : World} {ps : List Part} {vs : List Value} {A : Option Addr} {n cap : Nat} (hown : w7.ownsRow w.heap.size 82 1 (.slice A n cap) n vs) (hn : n = ps.length)
    (hpc : PartCells (fun b => S b ∧ b < w.heap.size) w7 ps vs) (hb : Below w.heap.size w w7) :
    LogAt (fun b => S b ∨ w.heap.size ≤ b) (w7.alloc (.cells #[.slice A n cap] 89)) (.pointer (some ⟨w7.heap.size, 0, none⟩)) ps := by
  have hs := hb.size
  refine ⟨_, _, vs, rfl, .inr hs, (cells1 (blk_new w7 _)).1, ?_, ?_⟩
  · rw [← hn]
    exact ((RowAt.of_own hown).mono (T := fun b => S b ∨ w.heap.size ≤ b) (fun b _ h => .inr h)).keep (box_below _ _)
  · exact (hpc.keepS (Same.of_below' (box_below _ _) _)).mono fun b _ h => .inl h.1
/-- A slice of one cell, made anew. -/
theorem own_one {W : World} {base : Nat} {e : TypeId} {x : Value} (hB : base ≤ W.heap.size) : (W.alloc (.cells #[x] e)).ownsRow base e 1 (.slice (some ⟨W.heap.size, 0, none⟩) 1 1) 1 [x] :=
  ⟨rfl, .inr ⟨_, _, _, rfl, hB, blk_new W _, Nat.le_refl _, by simp [maxLen], rfl, rfl⟩⟩
theorem same_old {w W W' : World} {g : Nat} (hw : w.heap.size ≤ W.heap.size) (hg : W.grownBy W' (some g)) (hge : w.heap.size ≤ g) : Same (· < w.heap.size) W W' :=
  ⟨hg.size, fun b hb hlt => hg.block b hlt (by simp; have : b < w.heap.size := hb; omega)⟩

set_option maxRecDepth 100000 in
set_option maxHeartbeats 2000000 in
theorem over_floor {S : Nat → Prop} (p : Value) (g : Lg) (w : World) (h : LogAt S w p g.parts) (hg : g.Good) :
    Calls Try.prog 20 #[p, .int .i64 g.a] w fun e w' => ∃ q, e = .returned (.tuple #[.pointer (some q), .int .i64 0]) ∧ LogAt (fun b => S b ∨ w.heap.size ≤ b) w' (.pointer (some q)) (g.over g.a).parts ∧ Below w.heap.size w w' := by
  have ga0 := hg.a0
  have ga1 := hg.a1
  have Hf := Lib.hid (find_lg p g g.a w h hg)
  have Hmem := Lib.hid fun W (hb : Below w.heap.size w W) => members_any p g g.a ⟨by omega, by omega⟩ W (h.keep hb) hg
  have hover := hg.over_floor
  have htop : g.a ≤ g.top := by unfold Lg.top; omega
  have h' := h.mono (T := fun b => S b ∧ b < w.heap.size) fun b h1 h2 => ⟨h2, h1⟩
  obtain ⟨b, sv, vs, rfl, -, hcell, hrow, hpc⟩ := h'
  obtain ⟨pb, po, pc, rfl, hpn, hpcm, -, hlt, hcells⟩ := hrow.form (by simp [Lg.parts])
  have hple := hg.parts_le
  have hplen := g.parts_length
  obtain ⟨v0, vs1, rfl, -, hpc1⟩ : ∃ v vs', vs = v :: vs' ∧ PartV (fun b => S b ∧ b < w.heap.size) w v (.ground g.a g.t g.m) ∧ PartCells (fun b => S b ∧ b < w.heap.size) w (g.rs.map fun r : Int × List Ent => Part.run r.1 r.2) vs' := hpc
  have hl1 := hpc1.length
  simp at hl1
  obtain ⟨i0, hi, hz0, hz1, hz2⟩ := info_parts infoPart
  have Hpc1 := Lib.hid hpc1
  have Hl1 := Lib.hid hl1
  have Hc := Lib.hid hcells
  have Hpl := Lib.hid hplen
  have Hov := Lib.hid hover
  have hcap : pc ≤ 9223372036854775807 := hpcm
  rw [hplen] at hcell hpn hple
  obtain ⟨len, hlen⟩ : ∃ len, g.rs.length + 1 = len := ⟨_, rfl⟩
  rw [hlen] at hcell hpn hple
  have Hlen := Lib.hid hlen
  have hlen1 : 1 ≤ len := by omega
  clear hpc1 hl1 hcells hrow hover hplen hlen h
  go_enter Try.func20, Try.ntmps20
  go_wp2_with fail
  refine Hf.out.mono ?_
  rintro e w1 ⟨hp, hb⟩
  rcases hp with ⟨i, hi', v, hh, hno, hv, rfl⟩ | ⟨hno, rfl⟩
  rotate_left
  · have := hg.noPart fun j hj => hno j hj hj
    omega
  obtain rfl : i = 0 := by
    rcases hg.part hi' hh with ⟨h0, -⟩ | ⟨j, hj, -, h1, -⟩
    · exact h0
    · omega
  rw [g.parts_zero] at hv
  obtain rfl := hv
  have hcell1 := cell_keep hb hcell
  clear hno hh
  have Ht := Lib.hid (Lg.Good.termAt_ground (g := g))
  by_cases hp1 : pc = 1
  · obtain rfl := hp1
    obtain rfl : len = 1 := by omega
    go_wp2_with (first | (go_at_call 127; refine (last_ground g.a g.t g.m _).mono ?_; rintro _ w2 ⟨rfl, hb2⟩) | (go_at_call 21; refine (Hmem.out _ (below_then hb hb2)).mono ?_; rintro _ w3 ⟨rfl, hb3⟩; have hcell3 := cell_keep hb3 (cell_keep hb2 hcell1); have hcell5 := fun o1 o2 => cell_keep (below_two w3 o1 o2) hcell3) | (at_builtin; refine wpList_append_own_at _ rfl _ _ 86 rfl w.heap.size 82 i0 .nilIface 1 16 Try.underlying86 hi hz0 hz1 hz2 rfl (by decide) _ 1 [.iface 97 (.agg #[.int .i64 g.a, .int .i64 g.t, .int .i64 (g.memAt g.a)])] rfl ?ho ⟨pb, po, none⟩ 0 0 [] rfl rfl ?hn ?h1 ?hm ?h7 ?hB ?_))
    case ho => exact own_keep (own_one (below_then (below_then hb hb2) hb3).size) (box_below _ _)
    case hn => intro j u hu; simp at hu
    case h1 => simp
    case hm => simp [maxLen]
    case h7 => omega
    case hB => have := (below_then (below_then hb hb2) hb3).size; simp; omega
    intro v' w6 hown hg6 _ _
    obtain ⟨gb, cap, rfl, hgb, hgl⟩ := hown.form (by omega)
    have hb5 := below_then (below_then hb hb2) hb3
    have hb6 : Below w.heap.size w w6 := (below_alloc (below_alloc hb5 _) _).grown hg6 (by have := hb5.size; simp; omega) (fun k hk => by simp [Value.ownBlock] at hk; have := hb5.size; omega)
    have hsm : Same (· < w.heap.size) w w6 := Same.of_below hb6
    have Hown := Lib.hid hown
    have hrs : g.rs = [] := by have := Hlen.out; exact List.eq_nil_of_length_eq_zero (by omega)
    have Hrs := Lib.hid hrs
    clear hown hg6 hrs
    go_wp2_with fail
    go_ret2
    refine ⟨_, rfl, ?_, below_alloc hb6 _⟩
    have hpp : (g.over g.a).parts = [.ground g.a g.t (g.memAt g.a)] := by rw [Hov.out, Ht.out]; simp [Lg.parts, Hrs.out]
    rw [hpp]
    exact over_log Hown.out rfl ⟨_, [], rfl, rfl, rfl⟩ hb6
  · have hp2 : 1 < pc := by omega
    have hp3 : ¬ (pc : Int) = 1 := by omega
    have hvl : vs1.length = len - 1 := by have := Hl1.out; have := Hlen.out; omega
    have Hvl := Lib.hid hvl
    clear hvl
    go_wp2_with (first | (go_at_call 127; refine (last_ground g.a g.t g.m _).mono ?_; rintro _ w2 ⟨rfl, hb2⟩) | (go_at_call 21; refine (Hmem.out _ (below_then hb hb2)).mono ?_; rintro _ w3 ⟨rfl, hb3⟩; have hcell3 := cell_keep hb3 (cell_keep hb2 hcell1); have hcell5 := fun o1 o2 => cell_keep (below_two w3 o1 o2) hcell3) | (at_builtin; refine wpList_append_own_at _ rfl _ _ 86 rfl w.heap.size 82 i0 .nilIface 1 16 Try.underlying86 hi hz0 hz1 hz2 rfl (by decide) _ 1 [.iface 97 (.agg #[.int .i64 g.a, .int .i64 g.t, .int .i64 (g.memAt g.a)])] rfl ?ho ⟨pb, po + 1, none⟩ (len - 1) (pc - 1) vs1 rfl ?hl ?hn ?h1 ?hm ?h7 ?hB ?_))
    case ho => exact own_keep (own_one (below_then (below_then hb hb2) hb3).size) (box_below _ _)
    case hl => rw [Hvl.out]; omega
    case hn =>
      intro j u hu
      rw [add_plain, show po + 1 + j = po + (j + 1) by omega]
      exact cell_keep (below_alloc (below_alloc (below_then (below_then hb hb2) hb3) _) _) (Hc.out (j + 1) u (by simpa using hu))
    case h1 => exact Hpc1.out.one
    case hm => simp [maxLen]; omega
    case h7 => omega
    case hB => have := (below_then (below_then hb hb2) hb3).size; simp; omega
    intro v' w6 hown hg6 _ _
    obtain ⟨gb, cap, rfl, hgb, hgl⟩ := hown.form (by omega)
    have hb5 := below_then (below_then hb hb2) hb3
    have hb6 : Below w.heap.size w w6 := (below_alloc (below_alloc hb5 _) _).grown hg6 (by have := hb5.size; simp; omega) (fun k hk => by simp [Value.ownBlock] at hk; have := hb5.size; omega)
    have hsm : Same (· < w.heap.size) w w6 := Same.of_below hb6
    have Hown := Lib.hid hown
    clear hown hg6
    go_wp2_with fail
    go_ret2
    refine ⟨_, rfl, ?_, below_alloc hb6 _⟩
    have hpp : (g.over g.a).parts = .ground g.a g.t (g.memAt g.a) :: g.rs.map fun r : Int × List Ent => Part.run r.1 r.2 := by rw [Hov.out, Ht.out]; rfl
    rw [hpp]
    exact over_log Hown.out (by have := Hlen.out; simp; omega) ⟨_, vs1, rfl, rfl, Hpc1.out.keepS (hsm.mono fun b hb => hb.2)⟩ hb6
end Go.Proofs.Ytoaoldhajpbenaa
