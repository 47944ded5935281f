/- stuck.Room.votes: the iterator over a room's votes. -/
/- stuck.Room.Votes: the votes collected. -/
import Derived.RangeFuncNested
import Derived.RangeFuncBound
import Derived.RangeFuncCalls
import Derived.RangeFuncLeaves
import Derived.Shelf.Abstract
import Derived.Shelf.RegionOpen
import Derived.WalkKit
import Derived.OwnWalkIn
import Derived.TacticsInMore
import Derived.LoopNIn
import Derived.LoopIn
import Derived.Test.YtdhmefdnpiidbaaVotI
import Derived.Test.YtdhmefdnpiidbaaStuA
import Derived.RangeFuncBox
import Derived.Maps.AppendAt
namespace Go.Proofs.Ytdhmefdnpiidbaa.Stu
open Go.RowKit Go.Shelf Go.Proofs.YtdhmefdnpiidbaaW.PrintWords Go.Proofs.YtdhmefdnpiidbaaW.PrintLast
open Go.Proofs.Ytdhmefdnpiidbaa.Vot Go.Proofs.Ytdhmefdnpiidbaa.RG
attribute [local go_sem] Oper.semAt_some
set_option linter.unusedVariables false
set_option linter.unusedSimpArgs false

def idxV (wd at_ n : Int) (i : Nat) : Int := Int.tmod (at_ - n + i + (wd - 1)) (wd - 1)
def vx (wd : Int) (ring : List Int) (at_ n : Int) (i : Nat) : Int := ring[(idxV wd at_ n i).toNat]?.getD 0

/-- What a round keeps: all below n₀, and the box. -/
def KR (n₀ Bb : Nat) (A B : World) : Prop := Below n₀ A B ∧ B.heap[Bb]? = A.heap[Bb]?
theorem KR.refl (n₀ Bb : Nat) (A : World) : KR n₀ Bb A A := ⟨Below.refl _ _, rfl⟩
theorem KR.trans {n₀ Bb : Nat} {A B C : World} (h : KR n₀ Bb A B) (k : KR n₀ Bb B C) : KR n₀ Bb A C := ⟨h.1.trans k.1, k.2.trans h.2⟩
theorem KR.drew {n₀ Bb : Nat} {A B : World} (h : KR n₀ Bb A B) : KR n₀ Bb A B.drew := ⟨h.1.drew, h.2⟩
theorem KR.b {n₀ Bb : Nat} {A B : World} (h : KR n₀ Bb A B) (i : Nat) : B.cell? ⟨Bb, i, none⟩ = A.cell? ⟨Bb, i, none⟩ := World.cell?_of_block (a := ⟨Bb, i, none⟩) h.2

set_option maxRecDepth 100000 in
set_option maxHeartbeats 4000000 in
theorem votes1_in (n : Nat) (l Bb B n₀ : Nat) (wd bd at_ : Int) (nn : Nat) (ring : List Int) (hB : B < n₀) (hw : 2 ≤ wd ∧ wd ≤ 16) (ha : 0 ≤ at_ ∧ at_ < wd - 1) (hnn : (nn : Int) ≤ wd - 1) (J Jx : List Int → World → Prop) (hJd : ∀ pre W, J pre W → J pre W.drew)
    (hY : ∀ pre x W, J pre W → pre.length < nn → YieldAt Fence.wide (n - 1) Try.prog l #[.int .i64 x] W fun e W' =>
      (e = .returned (.bool true) ∧ J (pre ++ [x]) W' ∧ KR n₀ Bb W W') ∨ (e = .returned (.bool false) ∧ Jx (pre ++ [x]) W'))
    (W : World) (hBb : W.cell? ⟨Bb, 0, none⟩ = some (.pointer (some ⟨B, 0, none⟩))) (hR : Room W B wd bd ring at_ nn) (h0 : J [] W) :
    CallsIn Fence.wide n Try.prog 102 #[.func (.yield l) #[] #[], .pointer (some ⟨Bb, 0, none⟩)] W fun e W' => (∃ v, e = .returned v) ∧
      ((∃ ys, ys = upto (vx wd ring at_ nn) nn ∧ J ys W') ∨ (∃ pre, (∃ k, k ≤ nn ∧ pre = upto (vx wd ring at_ nn) k) ∧ Jx pre W')) := by
  have hu := Try.underlying127
  have hu2 := Try.underlying125
  have HR := Aside0.mk hR
  have k0 := hR.c0
  have k19 := hR.c19
  have hwr2 : IntKind.i64.wrap (wd - 1) = wd - 1 := (i64_w _).trans (by unfold wrap64; omega)
  have HA := Aside0.mk ha
  have HW := Aside0.mk hw
  have HN := Aside0.mk hnn
  clear hR ha hw hnn
  refine callsIn_of_wp Try.func102 rfl trivial ?_ rfl
  simp only [Try.ntmps102, List.size_toArray, List.length_cons, List.length_nil, Nat.reduceAdd, Nat.reduceSub, Array.replicate_succ, Array.replicate_zero, List.push_toArray, List.append_toArray, List.nil_append, List.cons_append]
  gi_wp2
  gi_loopw [16] (fun i wr => ∃ k : Nat, k ≤ nn ∧ i = .int .i64 k ∧ J (upto (vx wd ring at_ nn) k) wr ∧ KR n₀ Bb W wr)
    (fun i _ => nn - (intOf i).toNat)
  case atStart => exact ⟨0, Nat.zero_le _, rfl, h0, KR.refl _ _ _⟩
  case round =>
    obtain ⟨k, hk, rfl, hJs, hnx⟩ := hrel
    by_cases hlt : k < nn
    · have hlt' : (k : Int) < (nn : Int) := by omega
      obtain ⟨fn, tmps, assign, body, hy, hYR⟩ := hY _ (vx wd ring at_ nn k) wr.drew (hJd _ _ hJs) (by rw [upto_length]; exact hlt)
      try dsimp only at hy
      have ha := HA.out
      have hw := HW.out
      have hnn := HN.out
      have hR' : Room wr B wd bd ring at_ nn := ⟨(hnx.1.block B hB).trans HR.out.block, HR.out.len⟩
      have e1 := (hnx.b 0).trans hBb
      have e0 := hR'.c0
      have e18 := hR'.c18
      have e19 := hR'.c19
      have q1 : IntKind.i64.wrap (at_ - nn) = at_ - nn := (i64_w _).trans (by unfold wrap64; omega)
      have q2 : IntKind.i64.wrap (at_ - nn + k) = at_ - nn + k := (i64_w _).trans (by unfold wrap64; omega)
      have q3 : IntKind.i64.wrap (at_ - nn + k + (wd - 1)) = at_ - nn + k + (wd - 1) := (i64_w _).trans (by unfold wrap64; omega)
      have t0 : 0 ≤ Int.tmod (at_ - nn + k + (wd - 1)) (wd - 1) := Int.tmod_nonneg _ (by omega)
      have t1 : Int.tmod (at_ - nn + k + (wd - 1)) (wd - 1) < wd - 1 := Int.tmod_lt_of_pos _ (by omega)
      have b0 := eq_true t0
      have b1 : (Int.tmod (at_ - nn + k + (wd - 1)) (wd - 1) < 16) = True := eq_true (by omega)
      have ti : (Int.tmod (at_ - nn + k + (wd - 1)) (wd - 1)).toNat < 16 := by omega
      have er := hR'.cr ti
      have ev : ring[(Int.tmod (at_ - nn + k + (wd - 1)) (wd - 1)).toNat]?.getD 0 = vx wd ring at_ nn k := rfl
      have hz2 : (wd - 1 = 0) = False := eq_false (by omega)
      have HR2 := Aside0.mk hYR
      have HY := Aside0.mk hY
      have HJ := Aside0.mk hJd
      clear hYR hY hJd ha hw hnn t0 t1 ti hlt' hR'
      rw [ev] at er
      clear ev
      gi_wp2
      refine wpIn_region_still_tail 21 (by kernel_rfl) (by kernel_rfl) ?_
      simp only [List.take_succ_cons, List.take_zero, List.drop_succ_cons, List.drop_zero]
      repeat still_step
      try refine wpStill_nil ?_
      change wpListIn _ _ _ _ _ _ _ wr.drew
      gi_wp2
      refine ⟨fun h => (by cases h), HR2.out.mono ?_⟩
      rintro e W3 (⟨rfl, hJ3, hk3⟩ | ⟨rfl, hJx3⟩)
      · have hkb : (k : Int) + 1 ≤ 16 := by have := HN.out; have := HW.out; omega
        gi_wp2
        go_roundw
        case rel => exact ⟨k + 1, by omega, by simp, by rw [upto_succ]; exact hJ3, hnx.trans ((KR.refl n₀ Bb wr).drew.trans hk3)⟩
        case measure => simp [intOf]; omega
      · gi_wp2
        refine bodyPost_ret (results_none rfl _ _ _) rfl ?_
        exact ⟨⟨_, rfl⟩, .inr ⟨_, ⟨k + 1, by omega, (upto_succ _ _).symm⟩, hJx3⟩⟩
    · obtain rfl : k = nn := by omega
      gi_wp2
      go_end0
      exact ⟨⟨_, rfl⟩, .inl ⟨_, rfl, hJs⟩⟩

/-- The votes of a room, the oldest one first. -/
def votesV (wd : Int) (ring : List Int) (at_ n : Int) : List Int := upto (vx wd ring at_ n) n.toNat

theorem upto_prefix' (f : Nat → Int) {k n : Nat} (h : k ≤ n) : upto f k <+: upto f n := by
  unfold upto
  rw [show List.range k = (List.range n).take k by simp [Nat.min_eq_left h], List.map_take]
  exact List.take_prefix _ _

/-- stuck.Room.votes: the closure captures the box of its receiver. -/
theorem votes_in (p : Option Addr) (w : World) :
    Calls Try.prog 88 #[.pointer p] w fun e w' => e = .returned (.func (.func 102) #[] #[.pointer (some ⟨w.heap.size, 0, none⟩)]) ∧ w' = w.alloc (.cells #[.pointer p] 61) := by
  go_enter Try.func88, Try.ntmps88
  go_wp2
  go_ret
  exact ⟨rfl, rfl⟩

theorem votes_stops (n : Nat) (Bb B n₀ : Nat) (wd bd at_ : Int) (nn : Nat) (ring : List Int) (w : World) (hb : Bb < w.heap.size) (hn₀ : n₀ ≤ w.heap.size) (hB : B < n₀) (hw : 2 ≤ wd ∧ wd ≤ 16) (ha : 0 ≤ at_ ∧ at_ < wd - 1) (hnn : (nn : Int) ≤ wd - 1)
    (hBb : w.cell? ⟨Bb, 0, none⟩ = some (.pointer (some ⟨B, 0, none⟩))) (hR : Room w B wd bd ring at_ nn) :
    SeqStopsK Fence.wide n Try.prog 102 #[.pointer (some ⟨Bb, 0, none⟩)] (fun x : Int => #[Value.int .i64 x]) (KR n₀ Bb) (fun ys => ys = votesV wd ring at_ nn) (fun pre => pre <+: votesV wd ring at_ nn) nn w := fun l J Jx W hW hJ _ hY h0 => by
  have hJd : ∀ pre W1, J pre W1 → J pre W1.drew := fun pre W1 h => hJ pre W1 W1.drew none h ⟨rfl, rfl, rfl, Nat.le_refl _, fun _ _ _ => rfl⟩ (fun r e => by cases e)
  have hR' : Room W B wd bd ring at_ nn := ⟨(hW.block B hR.lt).trans hR.block, hR.len⟩
  refine (votes1_in n l Bb B n₀ wd bd at_ nn ring hB hw ha hnn J Jx hJd hY W ((hW.cell (p := ⟨Bb, 0, none⟩) hb).trans hBb) hR' h0).mono ?_
  rintro e W' ⟨he, ⟨ys, rfl, hj⟩ | ⟨pre, ⟨k, hk, rfl⟩, hj⟩⟩
  · exact ⟨he, .inl ⟨_, rfl, hj⟩⟩
  · exact ⟨he, .inr ⟨_, upto_prefix' _ hk, hj⟩⟩
end Go.Proofs.Ytdhmefdnpiidbaa.Stu

namespace Go.Proofs.Ytdhmefdnpiidbaa.Stu
open Go.RowKit Go.Shelf Go.Proofs.YtdhmefdnpiidbaaW.PrintWords Go.Proofs.YtdhmefdnpiidbaaW.PrintLast
open Go.Proofs.Ytdhmefdnpiidbaa.Vot Go.Proofs.Ytdhmefdnpiidbaa.RG
attribute [local go_sem] Oper.semAt_some
set_option linter.unusedVariables false
set_option linter.unusedSimpArgs false

theorem tinfo3 : (Try.prog.info? 3).map (fun i => (i.zero, i.size, i.bytes)) = some (some (.int .i64 0), 1, 8) := by kernel_rfl
theorem enter102 : ∀ args w, (callFunc 102 args).run Try.prog w = .ok (.enter 102 args) w := enters_of Try.func102 (by kernel_rfl) rfl

def Cells (W : World) (B : Nat) (t : TypeId) (cs : Array Value) : Prop := W.heap[B]? = some (.cells cs t (0, 0))
theorem Cells.lt {W : World} {B : Nat} {t : TypeId} {cs : Array Value} (h : Cells W B t cs) : B < W.heap.size := (Array.getElem?_eq_some_iff.1 h).1
theorem cells_own {β : Type} (B : Nat) (t : TypeId) (f : β → Array Value) : Own (fun s W => Cells W B t (f s)) := fun s X Y row hs hg hrow =>
  (hg.block B hs.lt (fun e => by obtain ⟨o, ho, hc⟩ := hrow B e.symm; rw [show X.heap[B]? = _ from hs] at ho; cases ho; simp [Obj.isCells] at hc)).trans hs

theorem votesV_length (wd at_ n : Int) (ring : List Int) : (votesV wd ring at_ n).length = n.toNat := upto_length _ _

set_option maxRecDepth 100000 in
set_option maxHeartbeats 4000000 in
theorem votes_own (B : Nat) (wd bd at_ : Int) (nn : Nat) (ring : List Int) (hw : 2 ≤ wd ∧ wd ≤ 16) (ha : 0 ≤ at_ ∧ at_ < wd - 1) (hnn : (nn : Int) ≤ wd - 1) (w : World) (hR : Room w B wd bd ring at_ nn) :
    CallsIn Fence.wide 4 Try.prog 49 #[.pointer (some ⟨B, 0, none⟩)] w fun e W' => ∃ v, e = .returned v ∧ W'.ownsRow w.heap.size 3 1 v nn ((votesV wd ring at_ nn).map (Value.int .i64)) ∧ Below w.heap.size w W' := by
  obtain ⟨i0, hi, hz0, hz1, hz2⟩ := info_parts tinfo3
  have HR := Aside0.mk hR
  have HN := Aside0.mk hnn
  have HW := Aside0.mk hw
  have HA := Aside0.mk ha
  clear hR hnn hw ha
  refine callsIn_of_wp_marks Try.func49 rfl trivial ?_ rfl
  simp only [Try.ntmps49, List.size_toArray, List.length_cons, List.length_nil, Nat.reduceAdd, Nat.reduceSub, Array.replicate_succ, Array.replicate_zero, List.push_toArray, List.append_toArray, List.nil_append, List.cons_append]
  gi_wp2_with ((try refine ⟨trivial, ?_⟩); gi_at_call 88; refine (callsIn_wide.2 (votes_in _ _)).mono ?_; rintro e w' ⟨rfl, rfl⟩)
  have bO := Boxed.new w 29 (.slice none 0 0)
  have bN := Boxed.new (w.alloc (.cells #[.slice none 0 0] 29)) 61 (.pointer (some ⟨B, 0, none⟩))
  rw [World.size_alloc] at bN
  have hB0 : Below w.heap.size w ((w.alloc (.cells #[.slice none 0 0] 29)).alloc (.cells #[.pointer (some ⟨B, 0, none⟩)] 61)) := ((Below.refl _ w).alloc (Nat.le_refl _) _).alloc (by simp) _
  refine wpIn_rangeFunc_ownG (n := 4) rfl (by decide) (gf := 102) (lb := #[.pointer (some ⟨w.heap.size + 1, 0, none⟩)]) rfl trivial enter102
    (votes_stops 3 (w.heap.size + 1) B w.heap.size wd bd at_ nn ring _ (by simp) (by simp; omega) HR.out.lt HW.out HA.out HN.out bN.cell ⟨(hB0.block B HR.out.lt).trans HR.out.block, HR.out.len⟩) KR.trans ?keep (Below.refl _ _) (fun _ => rfl)
    (fun pre W => (∃ v, Boxed W w.heap.size 29 v ∧ W.ownsRow w.heap.size 3 1 v pre.length (pre.map (Value.int .i64)) ∧ True) ∧ Below w.heap.size w W ∧ W.heap[w.heap.size + 1]? = some (.cells #[.pointer (some ⟨B, 0, none⟩)] 61 (0, 0)))
    (fun _ _ _ => False)
    ?hI
    (fun _ _ _ _ _ hs _ _ => hs)
    ⟨⟨_, bO.alloc _, World.ownsRow_nil _ _ _ _, trivial⟩, hB0, bN⟩
    (fun x => { tmps := #[.pointer (some ⟨B, 0, none⟩), undef, .slice none 0 0, .pointer (some ⟨w.heap.size, 0, none⟩), .int .i64 x, .pointer (some ⟨B, 0, none⟩), .func (.func 102) #[] #[.pointer (some ⟨w.heap.size + 1, 0, none⟩)], .int .i64 x, undef, undef, undef, undef, undef], defers := [] }) ?assign ?body ?done ?stop
  case keep =>
    intro W l o o' hl ho hc hw
    have hl2 : w.heap.size + 2 ≤ l := by simpa using hl
    refine ⟨belowK_b (w := w) (Nat.le_refl _) W l o o' (by omega) ho hc hw, ?_⟩
    simp [World.putObj, Array.getElem?_setIfInBounds]
    omega
  case hI =>
    intro s A B' row hs hg hr
    obtain ⟨h1, h2, h3⟩ := hs
    have hr' : ∀ r, row = some r → ∃ o : Obj, A.heap[r]? = some o ∧ o.isCells = false := fun r e => (hr r e).2
    exact ⟨(Own.from (holdsRow_own w.heap.size w.heap.size 29 3 1 (fun pre : List Int => pre.length) (fun pre => pre.map (Value.int .i64)) (fun _ _ => True)) _) s A B' row h1 hg hr,
      ownFrom_below (Nat.le_refl _) (by simp; omega) () A B' row h2 hg hr, cells_own (w.heap.size + 1) 61 (fun _ : Unit => #[.pointer (some ⟨B, 0, none⟩)]) () A B' row h3 hg hr'⟩
  case assign =>
    intro l x W K hK
    gi_wp2
    exact hK
  case body =>
    rintro l pre x W ⟨⟨v, hv, hrow, _⟩, hB, hx⟩ hlt
    have hc := hv.cell
    have hlen : pre.length < 16 := by have := HN.out; have := HW.out; omega
    gi_wp2_with (gi_at_builtin; refine wpListIn_append_own _ rfl _ _ 29 rfl w.heap.size 3 i0 (.int .i64 0) 1 8 Try.underlying29 hi hz0 hz1 hz2 rfl (by decide) _ _ _ rfl (hrow.alloc _) ⟨W.heap.size, 0, none⟩ 1 1 [.int .i64 x] rfl rfl (cell_one_new _ _ _) (by simp [Value.oneCell']) (by have : maxLen = 9223372036854775807 := rfl; omega) (by omega) (by have := hB.size; simp; omega) ?_; intro v' w1 hown' hgrow _; obtain ⟨g', cap', rfl⟩ := ownsRow_succ hown'; obtain ⟨hv1, hv2, hr2, hk2, hb2⟩ := hv.appended (by decide) hrow hB.size (Nat.le_refl _) hown' hgrow; have hc1 := hv1.cell; have hf1 := hv1.frozen)
    have hx1 : Boxed w1 (w.heap.size + 1) 61 (.pointer (some ⟨B, 0, none⟩)) := (Boxed.alloc (W := W) hx _).kept hgrow (Boxed.not_row (W := W) (t := 61) hx (by decide) hrow)
    have hx2 := (Below.heap_setCell w1 ⟨w.heap.size, 0, none⟩ (.slice (some ⟨g', 0, none⟩) (pre.length + 1) cap') (w.heap.size + 1) (by simp)).trans hx1
    exact ⟨hk2.from _, ⟨hb2, hx2.trans hx.symm⟩, ⟨_, hv2, by simpa using hr2, trivial⟩, hB.trans hb2, hx2⟩
  case done =>
    rintro D ys W hD rfl ⟨⟨v, hv, hrow, _⟩, hB, hx⟩ hK
    have hc := hv.cell
    rw [votesV_length, Int.toNat_natCast] at hrow
    gi_wp2
    refine ⟨by simp, .inl ⟨_, _, rfl, run_takeDeferred hK, ?_⟩⟩
    exact ⟨_, results_tmp rfl _ _ _, v, rfl, ownsRow_putObj hrow _ hK rfl, hB.trans (belowK_b (w := w) (Nat.le_refl _) W D _ _ (by simp at hD; omega) hK rfl rfl)⟩
  case stop =>
    rintro D c pre W _ _ h _
    exact h.elim

theorem votes_ok (B : Nat) (wd bd at_ n : Int) (ring : List Int) (hw : 2 ≤ wd ∧ wd ≤ 16) (ha : 0 ≤ at_ ∧ at_ < wd - 1) (hn : 0 ≤ n ∧ n ≤ wd - 1) (w : World) (hR : Room w B wd bd ring at_ n) :
    Calls Try.prog 49 #[.pointer (some ⟨B, 0, none⟩)] w fun e W' => ∃ v, e = .returned v ∧ Kd.R (Kd.int .i64) 3 W' w.heap.size (fun _ => True) v (votesV wd ring at_ n) ∧ Below w.heap.size w W' := by
  obtain ⟨nn, rfl⟩ := Int.eq_ofNat_of_zero_le hn.1
  refine (callsIn_wide.1 (votes_own B wd bd at_ nn ring hw ha hn.2 w hR)).mono ?_
  rintro e W' ⟨v, rfl, ho, hb⟩
  exact ⟨v, rfl, Kd.R_of_own (by rw [votesV_length, Int.toNat_natCast]; exact ho) (fun _ _ => trivial), hb⟩
end Go.Proofs.Ytdhmefdnpiidbaa.Stu
