/- vote.Vote: a vote of values with weights. -/
import Derived.Test.YtdhmefdnpiidbaaVotI
import Derived.Test.YtdhmefdnpiidbaaVotC
import Derived.Test.YtdhmefdnpiidbaaOrd4
import Derived.Test.YtdhmefdnpiidbaaBasex1
import Derived.RangeFuncFrom
import Derived.RangeFuncBox
namespace Go.Proofs.Ytdhmefdnpiidbaa.Vot
open Go.RowKit Go.Shelf Go.Proofs.YtdhmefdnpiidbaaW.PrintWords Go.Proofs.YtdhmefdnpiidbaaW.PrintMore Go.Proofs.YtdhmefdnpiidbaaW.PrintLast
open Go.Proofs.Ytdhmefdnpiidbaa.Base Go.Proofs.Ytdhmefdnpiidbaa.Ord
attribute [local go_sem] Oper.semAt_some
set_option linter.unusedVariables false

theorem size_new (w : World) (o o' : Obj) : ((w.alloc o).alloc o').heap[w.heap.size + 1]? = some o' := by
  have e : (w.alloc o).heap.size = w.heap.size + 1 := by show (w.heap.push o).size = _; simp
  have := blk_new (w.alloc o) o'
  rwa [e] at this
theorem size_new2 (w : World) (o o' o'' : Obj) : (((w.alloc o).alloc o').alloc o'').heap[w.heap.size + 1 + 1]? = some o'' := by
  have e : (w.alloc o).heap.size = w.heap.size + 1 := by show (w.heap.push o).size = _; simp
  have := size_new (w.alloc o) o' o''
  rwa [e] at this

theorem size_new3 (w : World) (o o' o'' o3 : Obj) : ((((w.alloc o).alloc o').alloc o'').alloc o3).heap[w.heap.size + 1 + 1 + 1]? = some o3 := by
  have e : (w.alloc o).heap.size = w.heap.size + 1 := by show (w.heap.push o).size = _; simp
  have := size_new2 (w.alloc o) o' o'' o3
  rwa [e] at this
/-- A block of cells, whatever their number. -/
def Cells (W : World) (B : Nat) (t : TypeId) (cs : Array Value) : Prop := W.heap[B]? = some (.cells cs t (0, 0))
theorem Cells.lt {W : World} {B : Nat} {t : TypeId} {cs : Array Value} (h : Cells W B t cs) : B < W.heap.size := (Array.getElem?_eq_some_iff.1 h).1
theorem cells_own {β : Type} (B : Nat) (t : TypeId) (f : β → Array Value) : Own (fun s W => Cells W B t (f s)) := fun s X Y row hs hg hrow =>
  (hg.block B hs.lt (fun e => by obtain ⟨o, ho, hc⟩ := hrow B e.symm; rw [show X.heap[B]? = _ from hs] at ho; cases ho; simp [Obj.isCells] at hc)).trans hs
theorem Cells.alloc {W : World} {B : Nat} {t : TypeId} {cs : Array Value} (h : Cells W B t cs) (o : Obj) : Cells (W.alloc o) B t cs := blk_alloc h o
theorem Cells.other {W : World} {B B' : Nat} {t : TypeId} {cs : Array Value} (h : Cells W B t cs) (hne : B ≠ B') (u : Value) : Cells (W.setCell ⟨B', 0, none⟩ u) B t cs := blk_far h hne u

theorem wrapE (x : Int) : IntKind.i64.wrap x = wrap64 x := by unfold wrap64; exact IntKind.wrap_i64 x
def smallB (a : Int) : Bool := decide (-1099511627776 ≤ a) && decide (a ≤ 1099511627776)
def clampF (n lo hi : Int) : Int := if (smallB n && smallB lo && smallB hi) = true then mx lo (mn n hi) else 0
def goodP (x : Int × Int) : Bool := decide (-4294967296 ≤ x.1) && decide (x.1 ≤ 4294967296) && decide (1 ≤ x.2) && decide (x.2 ≤ 16)
def sumV (m c : Int) (l : List (Int × Int)) : Int := l.foldl (fun s x => wrap64 (s + wrap64 (x.2 * clampF x.1 (wrap64 (m - c)) (wrap64 (m + c))))) 0
theorem sumV_snoc (m c : Int) (l : List (Int × Int)) (x : Int × Int) : sumV m c (l ++ [x]) = wrap64 (sumV m c l + wrap64 (x.2 * clampF x.1 (wrap64 (m - c)) (wrap64 (m + c)))) := by simp [sumV, List.foldl_append]
def totV (l : List (Int × Int)) : Int := l.foldl (fun s x => wrap64 (s + x.2)) 0

def VoteEnd (zs ws : List Int) (r : Int) (e : Ending) : Prop := e = .returned (.tuple #[.int .i64 (if (zs.zip ws).all goodP = true then r else 0), .bool ((zs.zip ws).all goodP)])
theorem totV_snoc (l : List (Int × Int)) (x : Int × Int) : totV (l ++ [x]) = wrap64 (totV l + x.2) := by simp [totV, List.foldl_append]

set_option maxRecDepth 100000 in
set_option maxHeartbeats 4000000 in
theorem vote_walk (Lo Hi Clip : Int) (A1 A2 : Option Addr) (c1 c2 : Nat) (zs ws : List Int) (w : World) (hz : Kd.C (Kd.int .i64) w A1 zs.length zs) (hcz : zs.length ≤ c1) (hw : Kd.C (Kd.int .i64) w A2 ws.length ws) (hcw : ws.length ≤ c2)
    (hr : vote_Right.f Lo Hi Clip = some true) (hm : midB zs = true) (hl : ws.length = zs.length)
    (kf kc : Nat) (fl r : Int) (hfl0 : (zs.zip ws).all goodP = true → fix_Floor.f kf (sumV (midI (sortI zs)) Clip (zs.zip ws)) (totV (zs.zip ws)) = some fl) (hcl0 : (zs.zip ws).all goodP = true → fix_Clamp.f kc fl Lo Hi = some r)
    (hcx : ∀ x : Int × Int, goodP x = true → ∃ k, fix_Clamp.f k x.1 (wrap64 (midI (sortI zs) - Clip)) (wrap64 (midI (sortI zs) + Clip)) = some (clampF x.1 (wrap64 (midI (sortI zs) - Clip)) (wrap64 (midI (sortI zs) + Clip)))) :
    Calls Try.prog 19 #[.agg #[.int .i64 Lo, .int .i64 Hi, .int .i64 Clip], .slice A1 zs.length c1, .slice A2 ws.length c2] w fun e w' => VoteEnd zs ws r e ∧ Below w.heap.size w w' := by
  have hu35 := Try.underlying35
  have hu118 := Try.underlying118
  have HZ := Aside0.mk hz
  have HW := Aside0.mk hw
  have HR := Aside0.mk hr
  have HM := Aside0.mk hm
  have hl1 : ((ws.length : Int) != (zs.length : Int)) = false := by simp [hl]
  have HF := Aside0.mk hfl0
  have HCL := Aside0.mk hcl0
  clear hfl0 hcl0
  clear hz hw hr hm
  refine (callsIn_wide (n := 3)).1 ?_
  refine callsIn_of_wp_marks Try.func19 rfl trivial ?_ rfl
  simp only [Try.ntmps19, List.size_toArray, List.length_cons, List.length_nil, Nat.reduceAdd, Nat.reduceSub, Array.replicate_succ, Array.replicate_zero, List.push_toArray, List.append_toArray, List.nil_append, List.cons_append]
  gi_wp2_with (first
    | ((try refine ⟨trivial, ?_⟩); gi_at_call 20; refine (callsIn_wide.2 (order_Mid.calls A1 c1 zs (midI (sortI zs)) true _ (Kd.C_alloc (Kd.C_alloc (Kd.C_alloc HZ.out _) _) _) hcz (by simp [order_Mid.f, HM.out]))).mono ?_; rintro e w1 ⟨rfl, hb⟩; have R1 := Aside0.mk (blk_below (g := w.heap.size) (o := (.cells #[.int .i64 Lo, .int .i64 Hi, .int .i64 Clip] 35 (0, 0))) (blk_alloc (blk_alloc (blk_new _ _) _) _) hb); have N1 := Aside0.mk (blk_below (g := w.heap.size + 1) (o := (.cells #[.int .i64 0] 3 (0, 0))) (blk_alloc (size_new _ _ _) _) hb); have B1 := Aside0.mk (blk_below (g := w.heap.size + 1 + 1) (o := (.cells #[.bool false] 4 (0, 0))) (size_new2 _ _ _ _) hb); have HB1 := Aside0.mk (below_step (w := w) (((Below.refl _ w).alloc (Nat.le_refl _) _).alloc (by simp) _ |>.alloc (by simp; omega) _) hb); clear hb; have r1_0 : World.cell? _ ⟨w.heap.size, 0, none⟩ = some (.int .i64 Lo) := (blk_cell R1.out 0).trans rfl; have fr1_0 : World.frozen? _ ⟨w.heap.size, 0, none⟩ = false := blk_frozen R1.out 0; have r1_1 : World.cell? _ ⟨w.heap.size, 1, none⟩ = some (.int .i64 Hi) := (blk_cell R1.out 1).trans rfl; have fr1_1 : World.frozen? _ ⟨w.heap.size, 1, none⟩ = false := blk_frozen R1.out 1; have r1_2 : World.cell? _ ⟨w.heap.size, 2, none⟩ = some (.int .i64 Clip) := (blk_cell R1.out 2).trans rfl; have fr1_2 : World.frozen? _ ⟨w.heap.size, 2, none⟩ = false := blk_frozen R1.out 2; have lr1 := blk_lt R1.out; have n1_0 : World.cell? _ ⟨w.heap.size + 1, 0, none⟩ = some (.int .i64 0) := (blk_cell N1.out 0).trans rfl; have fn1_0 : World.frozen? _ ⟨w.heap.size + 1, 0, none⟩ = false := blk_frozen N1.out 0; have ln1 := blk_lt N1.out; have b1_0 : World.cell? _ ⟨w.heap.size + 1 + 1, 0, none⟩ = some (.bool false) := (blk_cell B1.out 0).trans rfl; have fb1_0 : World.frozen? _ ⟨w.heap.size + 1 + 1, 0, none⟩ = false := blk_frozen B1.out 0; have lb1 := blk_lt B1.out)
    | ((try refine ⟨trivial, ?_⟩); gi_at_call 22; refine (callsIn_wide.2 (vote_Right.calls _ _ _ _ _ HR.out)).mono ?_; rintro e w2 ⟨rfl, hb⟩; have R2 := Aside0.mk (blk_below (g := w.heap.size) (o := (.cells #[.int .i64 Lo, .int .i64 Hi, .int .i64 Clip] 35 (0, 0))) (blk_alloc R1.out _) hb); have N2 := Aside0.mk (blk_below (g := w.heap.size + 1) (o := (.cells #[.int .i64 0] 3 (0, 0))) (blk_alloc N1.out _) hb); have B2 := Aside0.mk (blk_below (g := w.heap.size + 1 + 1) (o := (.cells #[.bool false] 4 (0, 0))) (blk_alloc B1.out _) hb); have M2 := Aside0.mk (blk_below (g := w1.heap.size) (o := (.cells #[.int .i64 (midI (sortI zs))] 3 (0, 0))) (blk_new _ _) hb); have HB2 := Aside0.mk (below_step (w := w) (HB1.out.alloc HB1.out.size _) hb); clear hb; have r2_0 : World.cell? _ ⟨w.heap.size, 0, none⟩ = some (.int .i64 Lo) := (blk_cell R2.out 0).trans rfl; have fr2_0 : World.frozen? _ ⟨w.heap.size, 0, none⟩ = false := blk_frozen R2.out 0; have r2_1 : World.cell? _ ⟨w.heap.size, 1, none⟩ = some (.int .i64 Hi) := (blk_cell R2.out 1).trans rfl; have fr2_1 : World.frozen? _ ⟨w.heap.size, 1, none⟩ = false := blk_frozen R2.out 1; have r2_2 : World.cell? _ ⟨w.heap.size, 2, none⟩ = some (.int .i64 Clip) := (blk_cell R2.out 2).trans rfl; have fr2_2 : World.frozen? _ ⟨w.heap.size, 2, none⟩ = false := blk_frozen R2.out 2; have lr2 := blk_lt R2.out; have n2_0 : World.cell? _ ⟨w.heap.size + 1, 0, none⟩ = some (.int .i64 0) := (blk_cell N2.out 0).trans rfl; have fn2_0 : World.frozen? _ ⟨w.heap.size + 1, 0, none⟩ = false := blk_frozen N2.out 0; have ln2 := blk_lt N2.out; have b2_0 : World.cell? _ ⟨w.heap.size + 1 + 1, 0, none⟩ = some (.bool false) := (blk_cell B2.out 0).trans rfl; have fb2_0 : World.frozen? _ ⟨w.heap.size + 1 + 1, 0, none⟩ = false := blk_frozen B2.out 0; have lb2 := blk_lt B2.out; have m2_0 : World.cell? _ ⟨w1.heap.size, 0, none⟩ = some (.int .i64 (midI (sortI zs))) := (blk_cell M2.out 0).trans rfl; have fm2_0 : World.frozen? _ ⟨w1.heap.size, 0, none⟩ = false := blk_frozen M2.out 0; have lm2 := blk_lt M2.out)
    | ((try refine ⟨trivial, ?_⟩); gi_at_call 70; refine (callsIn_wide.2 (ones_in _ _ _ _ _ _ _)).mono ?_; rintro e w3 ⟨rfl, rfl⟩))
  have cR := Aside0.mk (show Cells ((((w2.alloc (.cells #[.int .i64 0] 3)).alloc (.cells #[.int .i64 0] 3)).alloc (.cells #[.slice A1 zs.length c1] 29)).alloc (.cells #[.slice A2 zs.length c2] 29)) (w.heap.size) 35 #[.int .i64 Lo, .int .i64 Hi, .int .i64 Clip] from blk_alloc (blk_alloc (blk_alloc (blk_alloc R2.out _) _) _) _)
  have cN := Aside0.mk (show Cells ((((w2.alloc (.cells #[.int .i64 0] 3)).alloc (.cells #[.int .i64 0] 3)).alloc (.cells #[.slice A1 zs.length c1] 29)).alloc (.cells #[.slice A2 zs.length c2] 29)) (w.heap.size + 1) 3 #[.int .i64 0] from blk_alloc (blk_alloc (blk_alloc (blk_alloc N2.out _) _) _) _)
  have cB := Aside0.mk (show Cells ((((w2.alloc (.cells #[.int .i64 0] 3)).alloc (.cells #[.int .i64 0] 3)).alloc (.cells #[.slice A1 zs.length c1] 29)).alloc (.cells #[.slice A2 zs.length c2] 29)) (w.heap.size + 1 + 1) 4 #[.bool false] from blk_alloc (blk_alloc (blk_alloc (blk_alloc B2.out _) _) _) _)
  have cM := Aside0.mk (show Cells ((((w2.alloc (.cells #[.int .i64 0] 3)).alloc (.cells #[.int .i64 0] 3)).alloc (.cells #[.slice A1 zs.length c1] 29)).alloc (.cells #[.slice A2 zs.length c2] 29)) (w1.heap.size) 3 #[.int .i64 (midI (sortI zs))] from blk_alloc (blk_alloc (blk_alloc (blk_alloc M2.out _) _) _) _)
  have cS := Aside0.mk (show Cells ((((w2.alloc (.cells #[.int .i64 0] 3)).alloc (.cells #[.int .i64 0] 3)).alloc (.cells #[.slice A1 zs.length c1] 29)).alloc (.cells #[.slice A2 zs.length c2] 29)) (w2.heap.size) 3 #[.int .i64 0] from blk_alloc (blk_alloc (blk_alloc (blk_new _ _) _) _) _)
  have cT := Aside0.mk (show Cells ((((w2.alloc (.cells #[.int .i64 0] 3)).alloc (.cells #[.int .i64 0] 3)).alloc (.cells #[.slice A1 zs.length c1] 29)).alloc (.cells #[.slice A2 zs.length c2] 29)) (w2.heap.size + 1) 3 #[.int .i64 0] from blk_alloc (blk_alloc (size_new _ _ _) _) _)
  have cV := Aside0.mk (show Cells ((((w2.alloc (.cells #[.int .i64 0] 3)).alloc (.cells #[.int .i64 0] 3)).alloc (.cells #[.slice A1 zs.length c1] 29)).alloc (.cells #[.slice A2 zs.length c2] 29)) (w2.heap.size + 1 + 1) 29 #[.slice A1 zs.length c1] from blk_alloc (size_new2 _ _ _ _) _)
  have cW := Aside0.mk (show Cells ((((w2.alloc (.cells #[.int .i64 0] 3)).alloc (.cells #[.int .i64 0] 3)).alloc (.cells #[.slice A1 zs.length c1] 29)).alloc (.cells #[.slice A2 zs.length c2] 29)) (w2.heap.size + 1 + 1 + 1) 29 #[.slice A2 zs.length c2] from size_new3 _ _ _ _ _)
  have hsz : ((((w2.alloc (.cells #[.int .i64 0] 3)).alloc (.cells #[.int .i64 0] 3)).alloc (.cells #[.slice A1 zs.length c1] 29)).alloc (.cells #[.slice A2 zs.length c2] 29)).heap.size = w2.heap.size + 4 := by simp
  have HB3 := Aside0.mk (show Below w.heap.size w ((((w2.alloc (.cells #[.int .i64 0] 3)).alloc (.cells #[.int .i64 0] 3)).alloc (.cells #[.slice A1 zs.length c1] 29)).alloc (.cells #[.slice A2 zs.length c2] 29)) from (((HB2.out.alloc HB2.out.size _).alloc (by simp; have := HB2.out.size; omega) _).alloc (by simp; have := HB2.out.size; omega) _).alloc (by simp; have := HB2.out.size; omega) _)
  have h12 : w1.heap.size < w2.heap.size := lm2
  have h01 := lb1
  generalize ((((w2.alloc (.cells #[.int .i64 0] 3)).alloc (.cells #[.int .i64 0] 3)).alloc (.cells #[.slice A1 zs.length c1] 29)).alloc (.cells #[.slice A2 zs.length c2] 29)) = W0 at cR cN cB cM cS cT cV cW hsz HB3 ⊢
  clear R1 N1 B1 R2 N2 B2 M2 HB1
  have h1z : 1 ≤ zs.length ∧ zs.length ≤ 4 := by
    have := HM.out
    simp only [midB, Bool.and_eq_true, decide_eq_true_eq] at this
    omega
  obtain ⟨ad, ead, hz0⟩ := Kd.at_int HZ.out 0 (by omega) (by omega)
  obtain ⟨ad', ead', hw0⟩ := Kd.at_int HW.out 0 (by omega) (by omega)
  subst ead ead'
  have hzc : ∀ j, j < zs.length → W0.cell? (ad.add j) = some (.int .i64 (zs[j]?.getD 0)) := fun j hj => by
    obtain ⟨a2, e, h⟩ := Kd.at_int HZ.out (j : Int) (by omega) (by omega)
    cases e
    rw [Int.toNat_natCast] at h
    exact (HB3.out.cell (World.block_lt_of_cell? w _ h)).trans (by simpa [rd] using h)
  have hwc : ∀ j, j < zs.length → W0.cell? (ad'.add j) = some (.int .i64 (ws[j]?.getD 0)) := fun j hj => by
    obtain ⟨a2, e, h⟩ := Kd.at_int HW.out (j : Int) (by omega) (by omega)
    cases e
    rw [Int.toNat_natCast] at h
    exact (HB3.out.cell (World.block_lt_of_cell? w _ h)).trans (by simpa [rd] using h)
  have hb1 : ad.block < w.heap.size := by have := World.block_lt_of_cell? w _ hz0; rwa [Int.toNat_zero, Addr.add_zero'] at this
  have hb2 : ad'.block < w.heap.size := by have := World.block_lt_of_cell? w _ hw0; rwa [Int.toNat_zero, Addr.add_zero'] at this
  have hbw := HB3.out.size
  refine wpIn_rangeFunc_ownH rfl (by decide) (gf := 96) (lb := #[.pointer (some ⟨w2.heap.size + 1 + 1, 0, none⟩), .pointer (some ⟨w2.heap.size + 1 + 1 + 1, 0, none⟩)]) rfl trivial (enters_of Try.func96 (by kernel_rfl) rfl)
    (ones_stops 2 (w2.heap.size + 1 + 1) (w2.heap.size + 1 + 1 + 1) w.heap.size c1 c2 ad ad' zs ws hl.symm (by omega) W0 (by omega) (by omega) hbw hb1 hb2 ((blk_cell cV.out 0).trans rfl) ((blk_cell cW.out 0).trans rfl) hzc hwc)
    KB.trans (fun W l o o' hl ho _ _ => ?keep) (Below.refl _ _) (fun _ => rfl)
    (fun pre W => (Cells W w.heap.size 35 #[.int .i64 Lo, .int .i64 Hi, .int .i64 Clip] ∧ Cells W (w.heap.size + 1) 3 #[.int .i64 0] ∧ Cells W (w.heap.size + 1 + 1) 4 #[.bool false] ∧ Cells W w1.heap.size 3 #[.int .i64 (midI (sortI zs))] ∧ Cells W w2.heap.size 3 #[.int .i64 (sumV (midI (sortI zs)) Clip pre)] ∧ Cells W (w2.heap.size + 1) 3 #[.int .i64 (totV pre)]) ∧ Below w.heap.size w W ∧ pre.all goodP = true ∧ W0.heap.size ≤ W.heap.size)
    (fun c pre W => c = .ret ∧ (Cells W (w.heap.size + 1) 3 #[.int .i64 0] ∧ Cells W (w.heap.size + 1 + 1) 4 #[.bool false]) ∧ Below w.heap.size w W ∧ pre.all goodP = false)
    ?hI ?hIx ⟨⟨cR.out, cN.out, cB.out, cM.out, cS.out, cT.out⟩, HB3.out, rfl, Nat.le_refl _⟩
    (fun x a' W => ∃ Bx, w2.heap.size + 1 < Bx ∧ Cells W Bx 118 #[.int .i64 x.1, .int .i64 x.2] ∧ a' = { tmps := #[.agg #[.int .i64 Lo, .int .i64 Hi, .int .i64 Clip], .slice (some ad) zs.length c1, .slice (some ad') zs.length c2, .pointer (some ⟨w.heap.size, 0, none⟩), undef, undef, .pointer (some ⟨w.heap.size + 1, 0, none⟩), .pointer (some ⟨w.heap.size + 1 + 1, 0, none⟩), .pointer (some ⟨w1.heap.size, 0, none⟩), .bool true, .pointer (some ⟨w2.heap.size, 0, none⟩), .pointer (some ⟨w2.heap.size + 1, 0, none⟩), .pointer (some ⟨Bx, 0, none⟩), .tuple #[.int .i64 (midI (sortI zs)), .bool true], .slice (some ad) zs.length c1, .tuple #[.int .i64 (midI (sortI zs)), .bool true], .int .i64 (midI (sortI zs)), .bool true, .agg #[.int .i64 Lo, .int .i64 Hi, .int .i64 Clip], .bool true, .bool false, .bool false, .bool true, .bool false, .bool false, .bool false, .slice (some ad') zs.length c2, .int .i64 (zs.length : Int), .slice (some ad) zs.length c1, .int .i64 (zs.length : Int), .bool false, .bool false, .slice (some ad) zs.length c1, .slice (some ad') zs.length c2, .func (.func 96) #[] #[.pointer (some ⟨w2.heap.size + 1 + 1, 0, none⟩), .pointer (some ⟨w2.heap.size + 1 + 1 + 1, 0, none⟩)], .agg #[.int .i64 x.1, .int .i64 x.2], undef, undef, undef, undef, undef, undef, undef, undef, undef, undef, undef, undef, undef, undef, undef, undef, undef, undef, undef, undef, undef, undef, undef, undef, undef, undef, undef, undef, undef, undef, undef, undef, undef, undef, undef, undef, undef, undef, undef, undef, undef, undef, undef, undef, undef, undef], defers := [] })
    ?hAx ?assign ?body ?done ?stop
  case keep =>
    refine ⟨belowK_b hbw W l o o' hl ho (by assumption) (by assumption), ?_, ?_⟩ <;> simp [World.putObj, Array.getElem?_setIfInBounds] <;> omega
  case hI =>
    intro s A B row hs hg hr
    have hr' : ∀ r, row = some r → ∃ o : Obj, A.heap[r]? = some o ∧ o.isCells = false := fun r e => (hr r e).2
    obtain ⟨⟨h1, h2, h3, h4, h5, h6⟩, h7, h8, h9⟩ := hs
    have k (g t : Nat) (cs : Array Value) (h : Cells A g t cs) : Cells B g t cs := cells_own g t (fun _ : Unit => cs) () A B row h hg hr'
    exact ⟨⟨k _ _ _ h1, k _ _ _ h2, k _ _ _ h3, k _ _ _ h4, k _ _ _ h5, k _ _ _ h6⟩, ownFrom_below (Nat.le_refl _) hbw () A B row h7 hg hr, h8, Nat.le_trans h9 hg.size⟩
  case hIx =>
    intro c s A B row hs hg hr
    have hr' : ∀ r, row = some r → ∃ o : Obj, A.heap[r]? = some o ∧ o.isCells = false := fun r e => (hr r e).2
    obtain ⟨h0, ⟨h1, h2⟩, h7, h8⟩ := hs
    have k (g t : Nat) (cs : Array Value) (h : Cells A g t cs) : Cells B g t cs := cells_own g t (fun _ : Unit => cs) () A B row h hg hr'
    exact ⟨h0, ⟨k _ _ _ h1, k _ _ _ h2⟩, ownFrom_below (Nat.le_refl _) hbw () A B row h7 hg hr, h8⟩
  case hAx =>
    intro x a' s A B row hs hg hr
    obtain ⟨Bx, h1, h2, h3⟩ := hs
    exact ⟨Bx, h1, cells_own Bx 118 (fun _ : Unit => #[.int .i64 x.1, .int .i64 x.2]) () A B row h2 hg (fun r e => (hr r e).2), h3⟩
  case assign =>
    rintro l pre x W K ⟨⟨h1, h2, h3, h4, h5, h6⟩, h7, h8, h9⟩ hK
    gi_wp2
    exact hK _ _ ((KeepsOthers.alloc _ _).from _) ⟨(Below.refl _ W).alloc h7.size _, Below.heap_alloc _ _ _ (by omega), Below.heap_alloc _ _ _ (by omega)⟩ ⟨⟨h1.alloc _, h2.alloc _, h3.alloc _, h4.alloc _, h5.alloc _, h6.alloc _⟩, h7.alloc h7.size _, h8, by simp; omega⟩ ⟨W.heap.size, h6.lt, blk_new _ _, rfl⟩
  case stop =>
    rintro D c pre W hD hpre ⟨rfl, ⟨h1, h2⟩, h7, h8⟩ hK
    have hall : (zs.zip ws).all goodP = false := by
      obtain ⟨q, hq⟩ := hpre
      rw [← hq, List.all_append, h8]; rfl
    gi_wp2
    refine ⟨by simp, .inl ⟨_, _, rfl, run_takeDeferred hK, ?_⟩⟩
    have hDn : D ≠ w.heap.size + 1 ∧ D ≠ w.heap.size + 1 + 1 := by omega
    have e1 : (W.putObj D (.deferred none)).cell? ⟨w.heap.size + 1, 0, none⟩ = some (.int .i64 0) := (World.cell?_of_block (w := W) (by simp [World.putObj, Array.getElem?_setIfInBounds, hDn.1])).trans ((blk_cell h1 0).trans rfl)
    have e2 : (W.putObj D (.deferred none)).cell? ⟨w.heap.size + 1 + 1, 0, none⟩ = some (.bool false) := (World.cell?_of_block (w := W) (by simp [World.putObj, Array.getElem?_setIfInBounds, hDn.2])).trans ((blk_cell h2 0).trans rfl)
    refine ⟨.tuple #[.int .i64 0, .bool false], ?_, ?_⟩
    · simp [results, Try.results19, go_sem, e1, e2]
      try rfl
    · exact ⟨by unfold VoteEnd; simp [hall], h7.trans (belowK_b (w := w) (Nat.le_refl _) W D _ _ (by omega) hK rfl rfl)⟩
  case done =>
    rintro D xs W hD rfl ⟨⟨h1, h2, h3, h4, h5, h6⟩, h7, h8, h9⟩ hK
    have hfl := HF.out h8
    have hcl := HCL.out h8
    gi_wp2
    refine wpIn_region_head (fun V => Cells V w.heap.size 35 #[.int .i64 Lo, .int .i64 Hi, .int .i64 Clip] ∧ Cells V (w.heap.size + 1) 3 #[.int .i64 0] ∧ Cells V (w.heap.size + 1 + 1) 4 #[.bool false] ∧ Cells V w2.heap.size 3 #[.int .i64 (sumV (midI (sortI zs)) Clip (zs.zip ws))] ∧ Cells V (w2.heap.size + 1) 3 #[.int .i64 (totV (zs.zip ws))] ∧ Below w.heap.size w V ∧ V.heap[D]? = some (.deferred (some []))) 8 (by kernel_rfl) (by kernel_rfl) ⟨h1, h2, h3, h5, h6, h7.drew, hK⟩ ?_
    simp only [List.take_succ_cons, List.take_zero, List.drop_succ_cons, List.drop_zero]
    refine wpQuietIn_step (fun _ _ _ _ => trivial) (fun K hK => ?_)
    rw [if_pos (by rfl)]
    refine ⟨.int .i64 (sumV (midI (sortI zs)) Clip (zs.zip ws)), fun V hV => ?_, hK _ ?_⟩
    · have e1 := (blk_cell hV.2.2.2.1 0).trans rfl
      unfold Oper.quietAtIn
      go_simp
    clear hK K
    refine wpQuietIn_step (fun _ _ _ _ => trivial) (fun K hK => ?_)
    rw [if_pos (by rfl)]
    refine ⟨.int .i64 (totV (zs.zip ws)), fun V hV => ?_, hK _ ?_⟩
    · have e1 := (blk_cell hV.2.2.2.2.1 0).trans rfl
      unfold Oper.quietAtIn
      go_simp
    clear hK K
    refine wpQuietIn_step (fun _ _ _ _ => trivial) (fun K hK => ?_)
    rw [if_pos (by rfl)]
    refine ⟨.int .i64 fl, fun V hV => ?_, hK _ ?_⟩
    · unfold Oper.quietAtIn
      go_simp
      refine callsIn_wide.2 ((fix_Floor.calls kf _ _ fl V hfl).mono fun e w'' ⟨he, hb⟩ => ⟨he, blk_below hV.1 hb, blk_below hV.2.1 hb, blk_below hV.2.2.1 hb, blk_below hV.2.2.2.1 hb, blk_below hV.2.2.2.2.1 hb, below_step hV.2.2.2.2.2.1 hb, blk_below hV.2.2.2.2.2.2 hb⟩)
    clear hK K
    refine wpQuietIn_step (fun _ _ _ _ => trivial) (fun K hK => ?_)
    rw [if_pos (by rfl)]
    refine ⟨.pointer (some ⟨w.heap.size, 0, none⟩), fun V hV => ?_, hK _ ?_⟩
    · unfold Oper.quietAtIn
      go_simp
    clear hK K
    refine wpQuietIn_step (fun _ _ _ _ => trivial) (fun K hK => ?_)
    rw [if_pos (by rfl)]
    refine ⟨.int .i64 Lo, fun V hV => ?_, hK _ ?_⟩
    · have e1 : V.cell? ⟨w.heap.size, 0, none⟩ = some (.int .i64 Lo) := (blk_cell hV.1 0).trans rfl
      unfold Oper.quietAtIn
      go_simp
    clear hK K
    refine wpQuietIn_step (fun _ _ _ _ => trivial) (fun K hK => ?_)
    rw [if_pos (by rfl)]
    refine ⟨.pointer (some ⟨w.heap.size, 1, none⟩), fun V hV => ?_, hK _ ?_⟩
    · unfold Oper.quietAtIn
      go_simp
    clear hK K
    refine wpQuietIn_step (fun _ _ _ _ => trivial) (fun K hK => ?_)
    rw [if_pos (by rfl)]
    refine ⟨.int .i64 Hi, fun V hV => ?_, hK _ ?_⟩
    · have e1 : V.cell? ⟨w.heap.size, 1, none⟩ = some (.int .i64 Hi) := (blk_cell hV.1 1).trans rfl
      unfold Oper.quietAtIn
      go_simp
    clear hK K
    refine wpQuietIn_step (fun _ _ _ _ => trivial) (fun K hK => ?_)
    rw [if_pos (by rfl)]
    refine ⟨.int .i64 r, fun V hV => ?_, hK _ ?_⟩
    · unfold Oper.quietAtIn
      go_simp
      refine callsIn_wide.2 ((fix_Clamp.calls kc _ _ _ r V hcl).mono fun e w'' ⟨he, hb⟩ => ⟨he, blk_below hV.1 hb, blk_below hV.2.1 hb, blk_below hV.2.2.1 hb, blk_below hV.2.2.2.1 hb, blk_below hV.2.2.2.2.1 hb, below_step hV.2.2.2.2.2.1 hb, blk_below hV.2.2.2.2.2.2 hb⟩)
    clear hK K
    refine wpQuietIn_nil ?_
    rintro V ⟨c1_, c2_, c3_, c4_, c5_, c6_, c7_⟩
    have e1 : V.cell? ⟨w.heap.size + 1, 0, none⟩ = some (.int .i64 0) := (blk_cell c2_ 0).trans rfl
    have e2 : V.cell? ⟨w.heap.size + 1 + 1, 0, none⟩ = some (.bool false) := (blk_cell c3_ 0).trans rfl
    have f1 : V.frozen? ⟨w.heap.size + 1, 0, none⟩ = false := blk_frozen c2_ 0
    have f2 : V.frozen? ⟨w.heap.size + 1 + 1, 0, none⟩ = false := blk_frozen c3_ 0
    gi_wp2
    have hDn : D ≠ w.heap.size + 1 ∧ D ≠ w.heap.size + 1 + 1 := by omega
    have hK2 : ((V.setCell ⟨w.heap.size + 1, 0, none⟩ (.int .i64 r)).setCell ⟨w.heap.size + 1 + 1, 0, none⟩ (.bool true)).heap[D]? = some (.deferred (some [])) :=
      (KeepsOthers.setCell _ _ _).same D _ ((KeepsOthers.setCell _ _ _).same D _ c7_ rfl) rfl
    refine ⟨by simp, .inl ⟨_, _, rfl, run_takeDeferred hK2, ?_⟩⟩
    have c2' : Cells ((V.setCell ⟨w.heap.size + 1, 0, none⟩ (.int .i64 r)).setCell ⟨w.heap.size + 1 + 1, 0, none⟩ (.bool true)) (w.heap.size + 1) 3 #[.int .i64 r] := Cells.other (blk_put c2_ 0 _ rfl) (by omega) _
    have c3' : Cells ((V.setCell ⟨w.heap.size + 1, 0, none⟩ (.int .i64 r)).setCell ⟨w.heap.size + 1 + 1, 0, none⟩ (.bool true)) (w.heap.size + 1 + 1) 4 #[.bool true] := blk_put (Cells.other c3_ (by omega) _) 0 _ rfl
    have b' : Below w.heap.size w ((V.setCell ⟨w.heap.size + 1, 0, none⟩ (.int .i64 r)).setCell ⟨w.heap.size + 1 + 1, 0, none⟩ (.bool true)) := (c6_.setCell (p := ⟨w.heap.size + 1, 0, none⟩) (by show _ ≤ w.heap.size + 1; omega) _).setCell (p := ⟨w.heap.size + 1 + 1, 0, none⟩) (by show _ ≤ w.heap.size + 1 + 1; omega) _
    generalize (V.setCell ⟨w.heap.size + 1, 0, none⟩ (.int .i64 r)).setCell ⟨w.heap.size + 1 + 1, 0, none⟩ (.bool true) = V2 at c2' c3' b' hK2 ⊢
    have e1 : (V2.putObj D (.deferred none)).cell? ⟨w.heap.size + 1, 0, none⟩ = some (.int .i64 r) := (World.cell?_of_block (w := V2) (by simp [World.putObj, Array.getElem?_setIfInBounds, hDn.1])).trans ((blk_cell c2' 0).trans rfl)
    have e2 : (V2.putObj D (.deferred none)).cell? ⟨w.heap.size + 1 + 1, 0, none⟩ = some (.bool true) := (World.cell?_of_block (w := V2) (by simp [World.putObj, Array.getElem?_setIfInBounds, hDn.2])).trans ((blk_cell c3' 0).trans rfl)
    refine ⟨.tuple #[.int .i64 r, .bool true], ?_, ?_⟩
    · simp [results, Try.results19, go_sem, e1, e2]
      try rfl
    · exact ⟨by unfold VoteEnd; rw [h8, if_pos rfl], b'.trans (belowK_b (w := w) (Nat.le_refl _) V2 D _ _ (by omega) hK2 rfl rfl)⟩
  case body =>
    rintro l pre x a' W hl' ⟨rc, hrc⟩ ⟨⟨h1, h2, h3, h4, h5, h6⟩, h7, h8, h9⟩ ⟨Bx, hBx, hX, rfl⟩ hlt
    have x1 : W.cell? ⟨Bx, 0, none⟩ = some (.int .i64 x.1) := (blk_cell hX 0).trans rfl
    have x2 : W.cell? ⟨Bx, 1, none⟩ = some (.int .i64 x.2) := (blk_cell hX 1).trans rfl
    have n1 : W.cell? ⟨w.heap.size + 1, 0, none⟩ = some (.int .i64 0) := (blk_cell h2 0).trans rfl
    have n2 : W.cell? ⟨w.heap.size + 1 + 1, 0, none⟩ = some (.bool false) := (blk_cell h3 0).trans rfl
    have n3 : W.frozen? ⟨w.heap.size + 1, 0, none⟩ = false := blk_frozen h2 0
    have n4 : W.frozen? ⟨w.heap.size + 1 + 1, 0, none⟩ = false := blk_frozen h3 0
    by_cases t1 : x.1 < -4294967296
    · have d1 := decide_eq_true t1
      gi_wp2
      exact ⟨((KeepsOthers.setCell _ _ _).trans (KeepsOthers.setCell _ _ _)).from _, rfl, ⟨Cells.other (blk_put h2 0 _ rfl) (by omega) _, blk_put (Cells.other h3 (by omega) _) 0 _ rfl⟩, (h7.setCell (p := ⟨w.heap.size + 1, 0, none⟩) (by show _ ≤ w.heap.size + 1; omega) _).setCell (p := ⟨w.heap.size + 1 + 1, 0, none⟩) (by show _ ≤ w.heap.size + 1 + 1; omega) _, by first | exact ⟨x.1, x.2, by simp, by simp [goodP]; omega⟩ | (rw [List.all_append]; simp [goodP]; omega)⟩
    have d1 := decide_eq_false t1
    by_cases t2 : 4294967296 < x.1
    · have d2 := decide_eq_true t2
      gi_wp2
      exact ⟨((KeepsOthers.setCell _ _ _).trans (KeepsOthers.setCell _ _ _)).from _, rfl, ⟨Cells.other (blk_put h2 0 _ rfl) (by omega) _, blk_put (Cells.other h3 (by omega) _) 0 _ rfl⟩, (h7.setCell (p := ⟨w.heap.size + 1, 0, none⟩) (by show _ ≤ w.heap.size + 1; omega) _).setCell (p := ⟨w.heap.size + 1 + 1, 0, none⟩) (by show _ ≤ w.heap.size + 1 + 1; omega) _, by first | exact ⟨x.1, x.2, by simp, by simp [goodP]; omega⟩ | (rw [List.all_append]; simp [goodP]; omega)⟩
    have d2 := decide_eq_false t2
    by_cases t3 : x.2 < 1
    · have d3 := decide_eq_true t3
      gi_wp2
      exact ⟨((KeepsOthers.setCell _ _ _).trans (KeepsOthers.setCell _ _ _)).from _, rfl, ⟨Cells.other (blk_put h2 0 _ rfl) (by omega) _, blk_put (Cells.other h3 (by omega) _) 0 _ rfl⟩, (h7.setCell (p := ⟨w.heap.size + 1, 0, none⟩) (by show _ ≤ w.heap.size + 1; omega) _).setCell (p := ⟨w.heap.size + 1 + 1, 0, none⟩) (by show _ ≤ w.heap.size + 1 + 1; omega) _, by first | exact ⟨x.1, x.2, by simp, by simp [goodP]; omega⟩ | (rw [List.all_append]; simp [goodP]; omega)⟩
    have d3 := decide_eq_false t3
    by_cases t4 : 16 < x.2
    · have d4 := decide_eq_true t4
      gi_wp2
      exact ⟨((KeepsOthers.setCell _ _ _).trans (KeepsOthers.setCell _ _ _)).from _, rfl, ⟨Cells.other (blk_put h2 0 _ rfl) (by omega) _, blk_put (Cells.other h3 (by omega) _) 0 _ rfl⟩, (h7.setCell (p := ⟨w.heap.size + 1, 0, none⟩) (by show _ ≤ w.heap.size + 1; omega) _).setCell (p := ⟨w.heap.size + 1 + 1, 0, none⟩) (by show _ ≤ w.heap.size + 1 + 1; omega) _, by first | exact ⟨x.1, x.2, by simp, by simp [goodP]; omega⟩ | (rw [List.all_append]; simp [goodP]; omega)⟩
    have d4 := decide_eq_false t4
    gi_wp2
    have hg : goodP x = true := by simp [goodP]; omega
    obtain ⟨kx, hkx⟩ := hcx x hg
    refine wpIn_region_head (fun V => Below W.heap.size W V) 16 (by kernel_rfl) (by kernel_rfl) ((Below.refl _ W).drew) ?_
    simp only [List.take_succ_cons, List.take_zero, List.drop_succ_cons, List.drop_zero]
    refine wpQuietIn_step (fun _ _ _ _ => trivial) (fun K hK => ?_)
    rw [if_pos (by rfl)]
    refine ⟨.int .i64 (sumV (midI (sortI zs)) Clip pre), fun V hV => ?_, hK _ ?_⟩
    · have e1 : V.cell? ⟨w2.heap.size, 0, none⟩ = some (.int .i64 (sumV (midI (sortI zs)) Clip pre)) := (blk_cell (blk_below h5 hV) 0).trans rfl
      unfold Oper.quietAtIn
      go_simp
    clear hK K
    refine wpQuietIn_step (fun _ _ _ _ => trivial) (fun K hK => ?_)
    rw [if_pos (by rfl)]
    refine ⟨.pointer (some ⟨Bx, 1, none⟩), fun V hV => ?_, hK _ ?_⟩
    · unfold Oper.quietAtIn
      go_simp
    clear hK K
    refine wpQuietIn_step (fun _ _ _ _ => trivial) (fun K hK => ?_)
    rw [if_pos (by rfl)]
    refine ⟨.int .i64 (x.2), fun V hV => ?_, hK _ ?_⟩
    · have e1 : V.cell? ⟨Bx, 1, none⟩ = some (.int .i64 (x.2)) := (blk_cell (blk_below hX hV) 1).trans rfl
      unfold Oper.quietAtIn
      go_simp
    clear hK K
    refine wpQuietIn_step (fun _ _ _ _ => trivial) (fun K hK => ?_)
    rw [if_pos (by rfl)]
    refine ⟨.pointer (some ⟨Bx, 0, none⟩), fun V hV => ?_, hK _ ?_⟩
    · unfold Oper.quietAtIn
      go_simp
    clear hK K
    refine wpQuietIn_step (fun _ _ _ _ => trivial) (fun K hK => ?_)
    rw [if_pos (by rfl)]
    refine ⟨.int .i64 (x.1), fun V hV => ?_, hK _ ?_⟩
    · have e1 : V.cell? ⟨Bx, 0, none⟩ = some (.int .i64 (x.1)) := (blk_cell (blk_below hX hV) 0).trans rfl
      unfold Oper.quietAtIn
      go_simp
    clear hK K
    refine wpQuietIn_step (fun _ _ _ _ => trivial) (fun K hK => ?_)
    rw [if_pos (by rfl)]
    refine ⟨.int .i64 (midI (sortI zs)), fun V hV => ?_, hK _ ?_⟩
    · have e1 : V.cell? ⟨w1.heap.size, 0, none⟩ = some (.int .i64 (midI (sortI zs))) := (blk_cell (blk_below h4 hV) 0).trans rfl
      unfold Oper.quietAtIn
      go_simp
    clear hK K
    refine wpQuietIn_step (fun _ _ _ _ => trivial) (fun K hK => ?_)
    rw [if_pos (by rfl)]
    refine ⟨.pointer (some ⟨w.heap.size, 2, none⟩), fun V hV => ?_, hK _ ?_⟩
    · unfold Oper.quietAtIn
      go_simp
    clear hK K
    refine wpQuietIn_step (fun _ _ _ _ => trivial) (fun K hK => ?_)
    rw [if_pos (by rfl)]
    refine ⟨.int .i64 (Clip), fun V hV => ?_, hK _ ?_⟩
    · have e1 : V.cell? ⟨w.heap.size, 2, none⟩ = some (.int .i64 (Clip)) := (blk_cell (blk_below h1 hV) 2).trans rfl
      unfold Oper.quietAtIn
      go_simp
    clear hK K
    refine wpQuietIn_step (fun _ _ _ _ => trivial) (fun K hK => ?_)
    rw [if_pos (by rfl)]
    refine ⟨.int .i64 (wrap64 (midI (sortI zs) - Clip)), fun V hV => ?_, hK _ ?_⟩
    · unfold Oper.quietAtIn
      go_simp
      exact wrapE _
    clear hK K
    refine wpQuietIn_step (fun _ _ _ _ => trivial) (fun K hK => ?_)
    rw [if_pos (by rfl)]
    refine ⟨.int .i64 (midI (sortI zs)), fun V hV => ?_, hK _ ?_⟩
    · have e1 : V.cell? ⟨w1.heap.size, 0, none⟩ = some (.int .i64 (midI (sortI zs))) := (blk_cell (blk_below h4 hV) 0).trans rfl
      unfold Oper.quietAtIn
      go_simp
    clear hK K
    refine wpQuietIn_step (fun _ _ _ _ => trivial) (fun K hK => ?_)
    rw [if_pos (by rfl)]
    refine ⟨.pointer (some ⟨w.heap.size, 2, none⟩), fun V hV => ?_, hK _ ?_⟩
    · unfold Oper.quietAtIn
      go_simp
    clear hK K
    refine wpQuietIn_step (fun _ _ _ _ => trivial) (fun K hK => ?_)
    rw [if_pos (by rfl)]
    refine ⟨.int .i64 (Clip), fun V hV => ?_, hK _ ?_⟩
    · have e1 : V.cell? ⟨w.heap.size, 2, none⟩ = some (.int .i64 (Clip)) := (blk_cell (blk_below h1 hV) 2).trans rfl
      unfold Oper.quietAtIn
      go_simp
    clear hK K
    refine wpQuietIn_step (fun _ _ _ _ => trivial) (fun K hK => ?_)
    rw [if_pos (by rfl)]
    refine ⟨.int .i64 (wrap64 (midI (sortI zs) + Clip)), fun V hV => ?_, hK _ ?_⟩
    · unfold Oper.quietAtIn
      go_simp
      exact wrapE _
    clear hK K
    refine wpQuietIn_step (fun _ _ _ _ => trivial) (fun K hK => ?_)
    rw [if_pos (by rfl)]
    refine ⟨.int .i64 (clampF x.1 (wrap64 (midI (sortI zs) - Clip)) (wrap64 (midI (sortI zs) + Clip))), fun V hV => ?_, hK _ ?_⟩
    · unfold Oper.quietAtIn
      go_simp
      refine CallsIn.inRound l (callsIn_wide.2 ((fix_Clamp.calls kx _ _ _ _ V hkx).mono fun e w'' ⟨he, hb⟩ => ⟨he, below_step hV hb⟩))
    clear hK K
    refine wpQuietIn_step (fun _ _ _ _ => trivial) (fun K hK => ?_)
    rw [if_pos (by rfl)]
    refine ⟨.int .i64 (wrap64 (x.2 * clampF x.1 (wrap64 (midI (sortI zs) - Clip)) (wrap64 (midI (sortI zs) + Clip)))), fun V hV => ?_, hK _ ?_⟩
    · unfold Oper.quietAtIn
      go_simp
      exact wrapE _
    clear hK K
    refine wpQuietIn_step (fun _ _ _ _ => trivial) (fun K hK => ?_)
    rw [if_pos (by rfl)]
    refine ⟨.int .i64 (wrap64 (sumV (midI (sortI zs)) Clip pre + wrap64 (x.2 * clampF x.1 (wrap64 (midI (sortI zs) - Clip)) (wrap64 (midI (sortI zs) + Clip))))), fun V hV => ?_, hK _ ?_⟩
    · unfold Oper.quietAtIn
      go_simp
      exact wrapE _
    clear hK K
    refine wpQuietIn_nil ?_
    intro V hV
    have s0 : V.cell? ⟨w2.heap.size, 0, none⟩ = some (.int .i64 (sumV (midI (sortI zs)) Clip pre)) := (blk_cell (blk_below h5 hV) 0).trans rfl
    have s1 : V.frozen? ⟨w2.heap.size, 0, none⟩ = false := blk_frozen (blk_below h5 hV) 0
    have t0 : V.cell? ⟨w2.heap.size + 1, 0, none⟩ = some (.int .i64 (totV pre)) := (blk_cell (blk_below h6 hV) 0).trans rfl
    have t1' : V.frozen? ⟨w2.heap.size + 1, 0, none⟩ = false := blk_frozen (blk_below h6 hV) 0
    have y2 : V.cell? ⟨Bx, 1, none⟩ = some (.int .i64 x.2) := (blk_cell (blk_below hX hV) 1).trans rfl
    gi_wp2
    have kV : KeepsOthers W V := ⟨hV.size, fun k o hk _ => (hV.block k (Array.getElem?_eq_some_iff.1 hk).1).trans hk⟩
    refine ⟨((kV.trans (KeepsOthers.setCell _ _ _)).trans (KeepsOthers.setCell _ _ _)).from _, ⟨(((Below.mono hV (by omega)).setCell (p := ⟨w2.heap.size, 0, none⟩) (by show _ ≤ w2.heap.size; omega) _).setCell (p := ⟨w2.heap.size + 1, 0, none⟩) (by show _ ≤ w2.heap.size + 1; omega) _), ?_, ?_⟩, ⟨?_, ?_, ?_, ?_, ?_, ?_⟩, ?_, ?_, ?_⟩
    · exact ((Below.heap_setCell _ ⟨w2.heap.size + 1, 0, none⟩ _ _ (by show w2.heap.size + 1 + 1 ≠ w2.heap.size + 1; omega)).trans (Below.heap_setCell _ ⟨w2.heap.size, 0, none⟩ _ _ (by show w2.heap.size + 1 + 1 ≠ w2.heap.size; omega))).trans (hV.block _ (by omega))
    · exact ((Below.heap_setCell _ ⟨w2.heap.size + 1, 0, none⟩ _ _ (by show w2.heap.size + 1 + 1 + 1 ≠ w2.heap.size + 1; omega)).trans (Below.heap_setCell _ ⟨w2.heap.size, 0, none⟩ _ _ (by show w2.heap.size + 1 + 1 + 1 ≠ w2.heap.size; omega))).trans (hV.block _ (by omega))
    · exact Cells.other (Cells.other (blk_below h1 hV) (by omega) _) (by omega) _
    · exact Cells.other (Cells.other (blk_below h2 hV) (by omega) _) (by omega) _
    · exact Cells.other (Cells.other (blk_below h3 hV) (by omega) _) (by omega) _
    · exact Cells.other (Cells.other (blk_below h4 hV) (by omega) _) (by omega) _
    · rw [sumV_snoc]
      exact Cells.other (blk_put (blk_below h5 hV) 0 _ rfl) (by omega) _
    · rw [totV_snoc]
      exact blk_put (Cells.other (blk_below h6 hV) (by omega) _) 0 _ rfl
    · exact ((below_step h7 hV).setCell (p := ⟨w2.heap.size, 0, none⟩) (by show _ ≤ w2.heap.size; omega) _).setCell (p := ⟨w2.heap.size + 1, 0, none⟩) (by show _ ≤ w2.heap.size + 1; omega) _
    · simp [h8, hg]
    · simp; have := hV.size; omega
end Go.Proofs.Ytdhmefdnpiidbaa.Vot
