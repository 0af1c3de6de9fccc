/- 'Slice'. No statement is proved here. -/
import Derived.Test.YtoaoldhajpbenaaEntN
import Derived.Test.YtoaoldhajpbenaaEntV
import Derived.Test.YtoaoldhajpbenaaEntH
import Derived.Deep.DeepCutAuto
import Derived.Deep.CutBlock
namespace Go.Proofs.Ytoaoldhajpbenaa
open Go.RowKit
attribute [local go_sem ↓] Go.wp_at_zero Go.wp_at_succ

/-- Entries from a place on, so many. -/
def Lg.slice (g : Lg) (from_ most : Int) : List Ent := if g.a < from_ ∧ from_ ≤ g.top then (g.ents.drop (from_ - g.a - 1).toNat).take most.toNat else []

/-- What the loop has gathered: entries in memory of its own, each with bytes of its own. -/
def Gathered (B : Nat) (wr : World) (o : Value) (es : List Ent) : Prop :=
  ∃ cs, wr.ownsRow B 33 3 o es.length cs ∧ EntCells (fun b => B ≤ b ∧ some b ≠ o.ownBlock) wr es cs
theorem Gathered.keep {B : Nat} {w w' : World} {o : Value} {es : List Ent} (h : Gathered B w o es) (hb : Below w.heap.size w w') : Gathered B w' o es := by
  obtain ⟨cs, h1, h2⟩ := h
  exact ⟨cs, own_keep h1 hb, h2.keepS (Same.of_below' hb _)⟩
theorem Gathered.ents {B : Nat} {w : World} {o : Value} {es : List Ent} (h : Gathered B w o es) : Ents (B ≤ ·) w o es := by
  obtain ⟨cs, h1, h2⟩ := h
  exact ⟨cs, RowAt.of_own h1, h2.mono fun b _ h => h.1⟩
theorem Gathered.nil (B : Nat) (w : World) : Gathered B w (.slice none 0 0) [] := ⟨[], World.ownsRow_nil _ _ _ _, rfl⟩

/-- One more: bytes copied in W, then the append. -/
theorem Gathered.push {B n : Nat} {wr W w6 : World} {o v6 : Value} {es : List Ent} {cs : List Value} {e : Ent} {ov : Value} {tmp : Obj}
    (h1 : wr.ownsRow B 33 3 o n cs) (hn : n = es.length) (h2 : EntCells (fun b => B ≤ b ∧ some b ≠ o.ownBlock) wr es cs) (hB : B ≤ wr.heap.size)
    (hW : Below wr.heap.size wr W) (hk : in64 e.kind) (ht : in64 e.term) (hov : Bytes (wr.heap.size ≤ ·) W ov e.cmd)
    (hown : w6.ownsRow B 33 3 v6 (n + 1) (cs ++ [.int .i64 e.kind, .int .i64 e.term, ov])) (hg : (W.alloc tmp).grownBy w6 o.ownBlock)
    (hat : v6.ownBlock = o.ownBlock ∨ v6.ownBlock = some (W.heap.size + 1)) :
    Gathered B w6 v6 (es ++ [e]) := by
  have hWs := hW.size
  have hob : ∀ b, some b = o.ownBlock → b < wr.heap.size := by
    intro b hb
    rcases h1.2 with ⟨rfl, _⟩ | ⟨g, cap, cur, rfl, _, hgb, _⟩
    · simp [Value.ownBlock] at hb
    · obtain rfl : b = g := by simpa [Value.ownBlock] using hb
      exact (Array.getElem?_eq_some_iff.1 hgb).1
  have hsame : Same (fun b => some b ≠ o.ownBlock ∧ b < W.heap.size) W w6 := by
    refine ⟨by have := hg.size; simp at this; omega, fun b hs hb => ?_⟩
    have := hg.block b (by simp; omega) (fun e => hs.1 e)
    rw [this]
    exact Below.heap_alloc W tmp b hb
  refine ⟨_, by rw [List.length_append, ← hn]; exact hown, EntCells.append ?_ ⟨ov, [], rfl, hk, ht, ?_, rfl⟩⟩
  · have a1 := EntCells.mono (T := fun b => B ≤ b ∧ some b ≠ o.ownBlock ∧ b < wr.heap.size) (fun b hb hs => ⟨hs.1, hs.2, hb⟩) h2
    have a2 := a1.keepS (Same.of_below' hW _)
    have a3 := a2.keepS (w' := w6) (hsame.mono fun b hs => ⟨hs.2.1, by have := hs.2.2; omega⟩)
    refine a3.mono fun b hb hs => ⟨hs.1, ?_⟩
    rcases hat with e | e
    · rw [e]; exact hs.2.1
    · rw [e]; intro h; simp at h; have := hs.2.2; omega
  · have a1 := RowAt.mono (T := fun b => wr.heap.size ≤ b ∧ b < W.heap.size) hov (fun b hb hs => ⟨hs, hb⟩)
    have a2 := RowAt.keepS (w' := w6) a1 (hsame.mono fun b hs => ⟨fun h => by have := hob b h; omega, hs.2⟩)
    refine RowAt.mono a2 fun b hb hs => ⟨by omega, ?_⟩
    rcases hat with e | e
    · rw [e]; intro h; have := hob b h; omega
    · rw [e]; intro h; simp at h; omega

theorem take_push {α : Type} (d m : Nat) (P : List α) (e : α) :
    ((P ++ [e]).drop d).take m = if d ≤ P.length ∧ ((P.drop d).take m).length < m then (P.drop d).take m ++ [e] else (P.drop d).take m := by
  by_cases hd : d ≤ P.length
  · rw [List.drop_append_of_le_length hd]
    by_cases hm : (P.drop d).length < m
    · rw [if_pos ⟨hd, by simp at hm ⊢; omega⟩, List.take_of_length_le (by simp at hm ⊢; omega), List.take_of_length_le (Nat.le_of_lt hm)]
    · rw [if_neg (by simp at hm ⊢; omega), List.take_append_of_le_length (by omega)]
  · rw [if_neg (by omega), List.drop_eq_nil_of_le (by simp; omega), List.drop_eq_nil_of_le (by omega)]

theorem Lg.Good.seq {g : Lg} (h : g.Good) (j : Nat) : ∀ q, j + q < g.rs.length → (g.rs[j + q]?.map (·.1)).getD 0 = (g.rs[j]?.map (·.1)).getD 0 + (allOf ((g.rs.drop j).take q)).length
  | 0, hq => by simp [allOf]
  | q + 1, hq => by
    have ih := Lg.Good.seq h j q (by omega)
    have hn := h.next (j + q) (by omega)
    rw [List.getElem?_eq_getElem (by omega)] at ih ⊢
    have e1 : (g.rs.drop j).take (q + 1) = (g.rs.drop j).take q ++ [g.rs[j + q]] := by
      rw [List.take_succ_eq_append_getElem (by simp; omega)]
      simp
    rw [e1, allOf_append]
    have e2 : g.rs[j + (q + 1)].1 = g.rs[j + q + 1].1 := rfl
    simp [allOf] at ih ⊢
    rw [e2, hn]
    omega

theorem Lg.Good.slice_at {g : Lg} (h : g.Good) {n m : Int} {j : Nat} (hj : j < g.rs.length) (h1 : g.a < n) (h2 : n ≤ g.top) (h3 : g.rs[j].1 ≤ n) :
    g.slice n m = ((allOf (g.rs.drop j)).drop (n - g.rs[j].1).toNat).take m.toNat := by
  unfold Lg.slice
  rw [if_pos ⟨h1, h2⟩]
  have e : g.ents = allOf (g.rs.take j) ++ allOf (g.rs.drop j) := by
    rw [← allOf_append, List.take_append_drop]; rfl
  have hp := (h.chain.at j hj).1
  have e2 : (n - g.a - 1).toNat = (allOf (g.rs.take j)).length + (n - g.rs[j].1).toNat := by omega
  rw [e, e2, List.drop_append, List.drop_eq_nil_of_le (by omega), Nat.add_sub_cancel_left, List.nil_append]

set_option maxRecDepth 100000 in
set_option maxHeartbeats 1000000 in
theorem slice_any {S : Nat → Prop} (p : Value) (g : Lg) (from_ most : Int) (w : World) (h : LogAt S w p g.parts) (hg : g.Good) :
    Calls Try.prog 16 #[p, .int .i64 from_, .int .i64 most] w fun e w' => ∃ lv, e = .returned lv ∧ Ents (w.heap.size ≤ ·) w' lv (g.slice from_ most) ∧ Below w.heap.size w w' := by
  have Hf := Lib.hid (find_lg p g from_ w h hg)
  obtain ⟨b, sv, vs, rfl, -, hcell, hrow, hpc⟩ := h
  obtain ⟨pb, po, pc, rfl, hn, hc, -, hlt, hcells⟩ := hrow.form (by simp [Lg.parts])
  have HP := Lib.hid hpc
  have HC := Lib.hid hcells
  have Hn := Lib.hid hn
  have hple := hg.parts_le
  have hplen := g.parts_length
  have hents : ∀ lv w', lv = .slice none 0 0 → g.slice from_ most = [] → Ents (w.heap.size ≤ ·) w' lv (g.slice from_ most) := by
    rintro _ w' rfl h2
    rw [h2]; exact ⟨[], ⟨rfl, .inl ⟨rfl, .inl rfl⟩⟩, rfl⟩
  have HE := Lib.hid hents
  have Hplen := Lib.hid hplen
  unfold maxLen at hc
  clear hpc hcells hn hrow hents hplen
  go_enter Try.func16, Try.ntmps16
  go_wp2_with fail
  refine Hf.out.mono ?_
  rintro e w1 ⟨hp, hb⟩
  have hcell1 := cell_keep hb hcell
  rcases hp with ⟨i, hi, v, hh, -, hv, rfl⟩ | ⟨hno, rfl⟩
  · rcases hg.part hi hh with ⟨rfl, rfl⟩ | ⟨j, hj, hij, h1, h2, h3, h4, -⟩
    · rw [g.parts_zero] at hv
      obtain rfl := hv
      go_wp2_with fail
      go_ret
      exact ⟨_, rfl, HE.out _ _ rfl (by simp [Lg.slice]), below_alloc hb _⟩
    · replace hv : PartV S w v (.run g.rs[j].1 g.rs[j].2) := by subst hij; rwa [g.parts_succ j hj] at hv
      obtain ⟨sl, rfl, cs, hrl, hec⟩ := hv
      obtain ⟨rb, ro, rc, rfl, -⟩ := hrl.form (hg.run_ok j hj).2.2.1
      have i1 : (i : Int) ≤ (g.parts.length : Int) := by omega
      have i2 : i ≤ g.parts.length := by omega
      have i3 : (g.parts.length : Int) ≤ (pc : Int) := by have := Hn.out; omega
      have Hij := Lib.hid hij
      have hcell2 := fun o' => cell_keep (box_below w1 o') hcell1
      obtain ⟨R, hR⟩ : ∃ R, g.parts.length - i = R := ⟨_, rfl⟩
      clear hrl hec hh hij
      go_wp2_with fail
      obtain ⟨d, hd⟩ : ∃ d, (from_ - g.rs[j].1).toNat = d := ⟨_, rfl⟩
      have Hd := Lib.hid hd
      have HR := Lib.hid hR
      clear hd hR
      go_loopw [11, 38] (fun o i wr => ∃ (q : Nat) (A : Option Addr) (c : Nat) (es : List Ent), q ≤ R ∧ i = .int .i64 q ∧ es = ((allOf ((g.rs.drop j).take q)).drop d).take most.toNat ∧ o = .slice A es.length c ∧ Gathered w.heap.size wr o es ∧ Below w.heap.size w wr) (fun _ i _ => R - (intOf i).toNat)
      case atStart => exact ⟨0, none, 0, [], by omega, rfl, by simp [allOf], rfl, Gathered.nil _ _, below_alloc hb _⟩
      case round =>
        obtain ⟨q, A, c, es, hq, rfl, hes, rfl, hG, hbr⟩ := hrel
        have Hes := Lib.hid hes
        have HG := Lib.hid hG
        clear hes hG
        by_cases hqR : q < R
        · have hjq : j + q < g.rs.length := by have := HR.out; have := Hij.out; have := Hplen.out; omega
          have hiq : i + q < g.parts.length := by have := HR.out; omega
          obtain ⟨v', hv', hpv'⟩ := HP.out.at (i + q) hiq
          have hcv : wr.cell? ⟨pb, po + i + q, none⟩ = some v' := by
            rw [Nat.add_assoc]; exact cell_keep hbr (HC.out _ _ hv')
          have epq : g.parts[i + q]'hiq = .run g.rs[j + q].1 g.rs[j + q].2 := by
            have e : i + q = j + q + 1 := by have := Hij.out; omega
            simp only [e]
            exact g.parts_succ (j + q) hjq
          rw [epq] at hpv'
          obtain ⟨sl', rfl, cs', hrl', hec'⟩ := hpv'
          have hrun := hg.run_ok (j + q) hjq
          obtain ⟨rb', ro', rc', rfl, hrn', hrc', -, hrb', hrcell'⟩ := hrl'.form hrun.2.2.1
          have hqR2 : (q : Int) < (R : Int) := by omega
          have hseq := hg.seq j q hjq
          rw [List.getElem?_eq_getElem hjq, List.getElem?_eq_getElem hj] at hseq
          have Hseq := Lib.hid (show g.rs[j + q].1 = g.rs[j].1 + (allOf ((g.rs.drop j).take q)).length from by simpa using hseq)
          have Htk := Lib.hid (show (g.rs.drop j).take (q + 1) = (g.rs.drop j).take q ++ [(g.rs[j + q].1, g.rs[j + q].2)] from by
            rw [List.take_succ_eq_append_getElem (by simp; omega)]; simp)
          have hcmd : ∀ e ∈ g.rs[j + q].2, e.cmd.length ≤ 4080 := fun e he => by
            have := ((hg.chain.at (j + q) hjq).2.2.1 e he).2
            simp [rightB] at this; omega
          have Hcmd := Lib.hid hcmd
          have Hsum := Lib.hid (show (allOf ((g.rs.drop j).take q)).length + g.rs[j + q].2.length ≤ 4096 from by
            have h1 := len_le_at g.rs (j + q) hjq
            have h2 := hg.len
            have h3 : g.ents.length = (allOf g.rs).length := rfl
            rw [List.take_add, allOf_append, List.length_append] at h1
            omega)
          obtain ⟨r1, r2, r3, r4⟩ := hrun
          have Hrc' := Lib.hid hrcell'
          have Hec' := Lib.hid hec'
          have Hrn' := Lib.hid hrn'
          clear hcmd hv' hrl' hrcell' hec' hseq epq hrn'
          generalize g.rs[j + q].1 = f at *
          generalize g.rs[j + q].2 = L at *
          go_wp2_with fail
          have hown0 : some wr.heap.size ≠ (Value.slice A es.length c).ownBlock := by
            obtain ⟨cs0, o1, -⟩ := HG.out
            rcases o1.2 with ⟨e0, _⟩ | ⟨g0, cap0, cur0, e0, _, hgb, _⟩
            · rw [e0]; simp [Value.ownBlock]
            · rw [e0]
              have := (Array.getElem?_eq_some_iff.1 hgb).1
              simp [Value.ownBlock]; omega
          go_loopw [11, 50] (fun o2 i2 wi => ∃ (k : Nat) (A2 : Option Addr) (c2 : Nat) (es2 : List Ent), k ≤ L.length ∧ i2 = .int .i64 k ∧ es2 = ((allOf ((g.rs.drop j).take q) ++ L.take k).drop d).take most.toNat ∧ o2 = .slice A2 es2.length c2 ∧ Gathered w.heap.size wi o2 es2 ∧
            wi.cell? ⟨wr.heap.size, 0, none⟩ = some (.int .i64 f) ∧ some wr.heap.size ≠ o2.ownBlock ∧ Below w.heap.size w wi) (fun _ i2 _ => L.length - (intOf i2).toNat)
          case atStart =>
            exact ⟨0, A, c, es, by omega, rfl, by rw [List.take_zero, List.append_nil]; exact Hes.out, rfl, HG.out.keep (box_below wr _), (cells2 (blk_new wr _)).1, hown0, below_alloc hbr _⟩
          case round =>
            obtain ⟨k, A2, c2, es2, hk, rfl, hes2, rfl, hG2, hf2, ho2, hbi⟩ := hrel
            have Hes2 := Lib.hid hes2
            have HG2 := Lib.hid hG2
            clear hes2 hG2
            by_cases hkL : k < L.length
            · obtain ⟨cv, hc0, hc1, hc2, hin1, hin2, hby⟩ := Hec'.out.at k hkL
              have y0 : wr.cell? ⟨rb', ro' + k * 3, none⟩ = some (.int .i64 L[k].kind) := cell_keep hbi (Hrc'.out _ _ hc0)
              have y1 : wr.cell? ⟨rb', ro' + k * 3 + 1, none⟩ = some (.int .i64 L[k].term) := by rw [Nat.add_assoc]; exact cell_keep hbi (Hrc'.out _ _ hc1)
              have y2 : wr.cell? ⟨rb', ro' + k * 3 + 2, none⟩ = some cv := by rw [Nat.add_assoc]; exact cell_keep hbi (Hrc'.out _ _ hc2)
              have Hby := Lib.hid (hby.keep hbi)
              obtain ⟨cA, cc, rfl⟩ := hby.slice
              have hkL2 : (k : Int) < (L.length : Int) := by omega
              have hkc : (k : Int) ≤ 4096 := by omega
              have hP : (allOf ((g.rs.drop j).take q) ++ L.take k).length = (allOf ((g.rs.drop j).take q)).length + k := by simp; omega
              have hplace : from_ ≤ f + k ↔ d ≤ (allOf ((g.rs.drop j).take q) ++ L.take k).length := by
                have := Hseq.out; have := Hd.out; rw [hP]; omega
              have hnext := take_push d most.toNat (allOf ((g.rs.drop j).take q) ++ L.take k) L[k]
              rw [List.append_assoc, ← List.take_succ_eq_append_getElem hkL, ← Hes2.out] at hnext
              have Hnext := Lib.hid hnext
              have Hplace := Lib.hid hplace
              clear hc0 hc1 hc2 hby hP hnext hplace
              have yf := fun o' => cell_keep (box_below wr o') hf2
              by_cases hadd : from_ ≤ f + k ∧ (es2.length : Int) < most
              · obtain ⟨hA, hB⟩ := hadd
                have hyes : d ≤ (allOf ((g.rs.drop j).take q) ++ L.take k).length ∧ es2.length < most.toNat := ⟨Hplace.out.1 hA, by omega⟩
                have hnx := Hnext.out
                rw [if_pos hyes] at hnx
                have Hnx := Lib.hid hnx
                have hcl : L[k].cmd.length ≤ 140737488355328 := by have := Hcmd.out L[k] (List.getElem_mem hkL); omega
                have hlen2 : es2.length ≤ 4096 := by
                  have e2 := Hsum.out
                  have e1 := congrArg List.length Hes2.out
                  rw [List.length_take, List.length_drop, List.length_append, List.length_take] at e1
                  omega
                obtain ⟨i0, hi0, hz0, hz1, hz2⟩ := info_parts infoEntry
                obtain ⟨cs2, hown2, hec2⟩ := HG2.out
                have Hown2 := Lib.hid hown2
                have Hec2 := Lib.hid hec2
                obtain ⟨x0, x1, x2, -⟩ := cells3 (blk_new wr (.cells #[.int .i64 L[k].kind, .int .i64 L[k].term, .slice cA L[k].cmd.length cc] 33))
                clear hnx hyes hown2 hec2
                go_wp2_with (first | (go_at_call 47; refine (own_any _ L[k].kind L[k].term _ L[k].cmd (Hby.out.keep (box_below wr _)) hcl).mono ?_; rintro _ w5 ⟨ov, rfl, hov, hb5⟩; obtain ⟨oA, oc, rfl⟩ := hov.slice; have Hov := Lib.hid hov; clear hov) | (at_builtin; refine wpList_append_own_at _ rfl _ _ 22 rfl w.heap.size 33 i0 _ 3 40 Try.underlying22 hi0 hz0 hz1 hz2 rfl (by decide) _ es2.length cs2 rfl ?ho ⟨w5.heap.size, 0, none⟩ 1 1 [.int .i64 L[k].kind, .int .i64 L[k].term, .slice oA L[k].cmd.length oc] rfl rfl ?hn ?h1 ?hm ?h7 ?hB ?_))
                case ho => exact (own_keep (own_keep Hown2.out (box_below wr _)) hb5).alloc _
                case hn => exact World.news_of_block (cs := #[.int .i64 L[k].kind, .int .i64 L[k].term, .slice oA L[k].cmd.length oc]) (t := 33) (fr := (0, 0)) (blk_new w5 _)
                case h1 => simp [Value.oneCell']
                case hm => simp [maxLen]; omega
                case h7 => omega
                case hB => have h1 := hbi.size; have h2 := (below_then (box_below wr _) hb5).size; simp; omega
                intro v6 w6 hown6 hg6 _ hat6
                obtain ⟨g6, cap6, rfl, hgb6, hgl6⟩ := hown6.form (by omega)
                have hW := below_then (box_below wr _) hb5
                have hWs := hW.size
                have hov' := Hov.out.mono (T := (wr.heap.size ≤ ·)) (fun b _ h => by simp at h; omega)
                have hGp := Gathered.push Hown2.out rfl Hec2.out hbi.size hW hin1 hin2 hov' hown6 hg6 hat6
                have hB0 := block_lt hf2
                have hf6 := (World.cell?_of_block (hg6.block _ (by simp; exact Nat.lt_of_lt_of_le hB0 (by omega)) ho2)).trans (cell_keep (box_below w5 _) (cell_keep hW hf2))
                have hb6 : Below w.heap.size w w6 := by
                  refine (below_alloc (below_then hbi hW) _).grown hg6 (by simp; have := hbi.size; omega) fun j6 ej => ?_
                  rcases Hown2.out.2 with ⟨e6, _⟩ | ⟨g7, cap7, cur7, e7, hgb7, _, _⟩
                  · rw [e6] at ej; simp [Value.ownBlock] at ej
                  · rw [e7] at ej
                    obtain rfl : g7 = j6 := by simpa [Value.ownBlock] using ej
                    exact hgb7
                have ho6' : ∀ B0, some B0 ≠ (Value.slice A2 es2.length c2).ownBlock → B0 < wr.heap.size → some B0 ≠ (Value.slice (some ⟨g6, 0, none⟩) (es2.length + 1) cap6).ownBlock := by
                  intro B0 h1 h2
                  rcases hat6 with e6 | e6
                  · rw [e6]; exact h1
                  · rw [e6]; intro h; simp at h; omega
                have ho6 := ho6' _ ho2 hB0
                clear ho6'
                have HGp := Lib.hid hGp
                clear hown6 hg6 hat6 hGp
                go_wp2_with fail
                go_roundw
                case rel => exact ⟨k + 1, some ⟨g6, 0, none⟩, cap6, es2 ++ [L[k]], hkL, by simp, Hnx.out.symm, by simp, HGp.out, hf6, ho6, hb6⟩
                case measure => simp [intOf]; omega
              · have hno : ¬ (d ≤ (allOf ((g.rs.drop j).take q) ++ L.take k).length ∧ es2.length < most.toNat) := fun h => hadd ⟨Hplace.out.2 h.1, by omega⟩
                have hnx := Hnext.out
                rw [if_neg hno] at hnx
                have Hnx := Lib.hid hnx
                have hadd' : f + k < from_ ∨ (from_ ≤ f + k ∧ most ≤ (es2.length : Int)) := by omega
                clear hnx hno hadd
                rcases hadd' with hA | ⟨hA, hB⟩
                all_goals
                  go_wp2_with fail
                  go_roundw
                  case rel => exact ⟨k + 1, A2, c2, es2, hkL, by simp, Hnx.out.symm, rfl, HG2.out.keep (box_below wr _), yf _, ho2, below_alloc hbi _⟩
                  case measure => simp [intOf]; omega
            · obtain rfl : k = L.length := by omega
              go_wp2_with fail
              go_roundw
              case rel =>
                refine ⟨q + 1, A2, c2, es2, hqR, by simp, ?_, rfl, HG2.out, hbi⟩
                rw [Hes2.out, Htk.out, allOf_append, List.take_length]
                simp [allOf]
              case measure => simp [intOf]; omega
        · obtain rfl : q = R := by omega
          go_wp2_with fail
          go_ret
          refine ⟨_, rfl, ?_, hbr⟩
          have hx := HG.out.ents
          rw [Lg.Good.slice_at hg hj h1 h2 h3, Hd.out]
          have e : (g.rs.drop j).take q = g.rs.drop j := by
            apply List.take_of_length_le
            have := HR.out; have := Hij.out; have := Hplen.out
            simp; omega
          have he := Hes.out
          rw [e] at he
          rw [← he]
          exact hx
  · have := hg.noPart fun j hj => hno j hj hj
    clear hno
    go_wp2_with fail
    go_ret
    exact ⟨_, rfl, HE.out _ _ rfl (by unfold Lg.slice; rw [if_neg (by omega)]), below_alloc hb _⟩
end Go.Proofs.Ytoaoldhajpbenaa
