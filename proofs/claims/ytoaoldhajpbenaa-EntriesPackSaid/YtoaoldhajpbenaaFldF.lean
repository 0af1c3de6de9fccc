/- Rows put end to end. No statement is proved here. -/
import Derived.Test.YtoaoldhajpbenaaFldE
import Derived.Handy
namespace Go.Proofs.Ytoaoldhajpbenaa
open Go.RowKit

theorem wrap64_small (a : Int) (h0 : 0 ≤ a) (h : a ≤ 1000000000) : wrap64 a = a := by unfold wrap64; omega

set_option maxRecDepth 100000 in
set_option maxHeartbeats 4000000 in
theorem concat3 {S1 S2 S3 : Nat → Prop} (A : Nat) (a1 a2 a3 : Option Addr) (n1 n2 n3 c1 c2 c3 : Nat) (x1 x2 x3 : List UInt8) (t : TypeId) (w : World)
    (hblk : w.heap[A]? = some (.cells #[.slice a1 n1 c1, .slice a2 n2 c2, .slice a3 n3 c3] t (0, 0)))
    (h1 : Bytes S1 w (.slice a1 n1 c1) x1) (h2 : Bytes S2 w (.slice a2 n2 c2) x2) (h3 : Bytes S3 w (.slice a3 n3 c3) x3) (hn1 : x1.length = n1) (hn2 : x2.length = n2) (hn3 : x3.length = n3)
    (hs : n1 + n2 + n3 ≤ 1000000000) :
    Calls Try.prog 106 #[.slice (some ⟨A, 0, none⟩) 3 3] w fun e w' => ∃ v, e = .returned v ∧ w'.ownsRow w.heap.size 5 1 v (n1 + n2 + n3) (byteCells (x1 ++ x2 ++ x3)) ∧ Below w.heap.size w w' := by
  obtain ⟨g0, g1, g2, f0, f1, f2⟩ := cells3 hblk
  have hA := block_lt g0
  have p1 : ¬ ((n1 : Int) < 0) := by omega
  have p2 : ¬ ((n1 : Int) + n2 < 0) := by omega
  have p3 : ¬ ((n1 : Int) + n2 + n3 < 0) := by omega
  have HG := Lib.hid (fun (w0 : World) => grow_nil ((n1 : Int) + n2 + n3) w0 (by omega) (by omega))
  have s1 : wrap64 (n1 : Int) = n1 := wrap64_small _ (by omega) (by omega)
  have s2 : wrap64 ((n1 : Int) + n2) = (n1 : Int) + n2 := wrap64_small _ (by omega) (by omega)
  have s3 : wrap64 ((n1 : Int) + n2 + n3) = (n1 : Int) + n2 + n3 := wrap64_small _ (by omega) (by omega)
  have Hs := Lib.hid hs
  have H1 := Lib.hid h1
  have H2 := Lib.hid h2
  have H3 := Lib.hid h3
  have Hn1 := Lib.hid hn1
  have Hn2 := Lib.hid hn2
  have Hn3 := Lib.hid hn3
  have Hblk := Lib.hid hblk
  clear hs h1 h2 h3 hn1 hn2 hn3 hblk
  go_enter Try.func106, Try.ntmps106
  go_wp2_with fail
  refine wp_loop_rounds 4 ?_
  rw [rounds_succ]
  go_wp2_with fail
  rw [rounds_succ]
  go_wp2_with fail
  rw [rounds_succ]
  go_wp2_with fail
  rw [rounds_succ]
  go_wp2_with fail
  refine (HG.out _).mono ?_
  rintro _ w1 ⟨v, rfl, hown, hb⟩
  have g01 := cell_keep hb g0
  have Hown := Lib.hid hown
  clear hown
  go_wp2_with fail
  refine wp_loop_rounds 4 ?_
  rw [rounds_succ]
  go_wp2_with (at_builtin; refine wpList_append_bytes _ rfl _ _ rfl _ _ rfl rfl w.heap.size 0 [] Hown.out x1 (H1.out.keep hb) ?h71 ?hB1 ?_)
  case h71 => have := Hs.out; have := Hn1.out; have := Hn2.out; have := Hn3.out; clear s1 s2 s3; omega
  case hB1 => exact hb.size
  intro u1 w2 hown1 hgr1 _
  have hb1 := hb.grown hgr1 hb.size (own_blk_ge Hown.out)
  have g11 := cell_keep hb1 g1
  have g12 := cell_keep hb1 g2
  have Hown1 := Lib.hid hown1
  clear hown1 hgr1
  go_wp2_with fail
  rw [rounds_succ]
  go_wp2_with (at_builtin; refine wpList_append_bytes _ rfl _ _ rfl _ _ rfl rfl w.heap.size x1.length (byteCells x1) Hown1.out x2 (H2.out.keep hb1) ?h72 ?hB2 ?_)
  case h72 => have := Hs.out; have := Hn1.out; have := Hn2.out; have := Hn3.out; clear s1 s2 s3; omega
  case hB2 => exact hb1.size
  intro u2 w3 hown2 hgr2 _
  have hb2 := hb1.grown hgr2 hb1.size (own_blk_ge Hown1.out)
  have g21 := cell_keep hb2 g1
  have g22 := cell_keep hb2 g2
  have Hown2 := Lib.hid hown2
  clear hown2 hgr2
  go_wp2_with fail
  rw [rounds_succ]
  go_wp2_with (at_builtin; refine wpList_append_bytes _ rfl _ _ rfl _ _ rfl rfl w.heap.size (x1.length + x2.length) (byteCells x1 ++ byteCells x2) Hown2.out x3 (H3.out.keep hb2) ?h73 ?hB3 ?_)
  case h73 => have := Hs.out; have := Hn1.out; have := Hn2.out; have := Hn3.out; clear s1 s2 s3; omega
  case hB3 => exact hb2.size
  intro u3 w4 hown3 hgr3 _
  have hb3 := hb2.grown hgr3 hb2.size (own_blk_ge Hown2.out)
  have g31 := cell_keep hb3 g1
  have g32 := cell_keep hb3 g2
  have Hown3 := Lib.hid hown3
  clear hown3 hgr3
  go_wp2_with fail
  rw [rounds_succ]
  go_wp2_with fail
  go_ret
  refine ⟨_, rfl, ?_, hb3⟩
  have h := Hown3.out
  have e1 := Hn1.out
  have e2 := Hn2.out
  have e3 := Hn3.out
  subst e1 e2 e3
  simpa [byteCells_append, List.append_assoc] using h
end Go.Proofs.Ytoaoldhajpbenaa
