/- rudderlaw09.alive. -/
/- No room: its votes, and whether they moved. -/
import Derived.Test.YtdhmefdnpiidbaaStuM
import Derived.Test.YtdhmefdnpiidbaaRef02
namespace Go.Proofs.Ytdhmefdnpiidbaa.Stu
open Go.RowKit Go.Proofs.YtdhmefdnpiidbaaW.PrintWords Go.Proofs.YtdhmefdnpiidbaaW.PrintLast Go.Proofs.YtdhmefdnpiidbaaW.PrintMore
open Go.Proofs.Ytdhmefdnpiidbaa.Base Go.Proofs.Ytdhmefdnpiidbaa.RG
set_option linter.unusedVariables false
set_option linter.unusedSimpArgs false

theorem ints66 (A : Option Addr) (c : Nat) (w : World) (h : Kd.C (Kd.int .i64) (w.alloc (.cells #[.int .i64 6, .int .i64 6] 3)) A 2 [6, 6]) (hc : 2 ≤ c) :
    Calls Try.prog 25 #[.slice A 2 c, .slice (some ⟨w.heap.size, 0, none⟩) 2 2] (w.alloc (.cells #[.int .i64 6, .int .i64 6] 3)) fun e w' => e = .returned (.bool true) ∧ Drawn0 (w.alloc (.cells #[.int .i64 6, .int .i64 6] 3)) w' := by
  obtain ⟨k, hk⟩ := Ref.ev_ints [6, 6] [6, 6] (by simp)
  have hr := Kd.R_reads' (Ord.R_block (xs := [6, 6]) (base := 0) (blk_new w (.cells #[.int .i64 6, .int .i64 6] 3)) (Nat.zero_le _) (by unfold maxLen; simp))
  exact rudderref02_Ints.calls k A c [6, 6] _ 2 [6, 6] _ _ h hc hr.2.2 (by simp) (hk k (Nat.le_refl _))

set_option maxRecDepth 100000 in
set_option maxHeartbeats 4000000 in
theorem alive_ok (w : World) : Calls Try.prog 39 #[] w fun e w' => e = .returned (.bool true) ∧ Below w.heap.size w w' := by
  have S0 := Aside0.mk trivial
  go_enter Try.func39, Try.ntmps39
  go_wp2_with (first
    | (go_at_call 40; have s0 := S0.out; clear S0; refine (new_ok 3 5 _ rfl rfl rfl rfl).mono ?_; rintro e w1 ⟨B, rfl, hl, hR, hB⟩; have hR' : Room w1 B 3 5 [0, 0, 0, 0, 0, 0, 0, 0, 0, 0, 0, 0, 0, 0, 0, 0] 0 0 := hR; have T1 := Aside0.mk hR'; have HB1 := Aside0.mk hB; clear hR hB hR' s0)
    | (go_at_call 42; have hR := T1.out; have hb := HB1.out; clear T1 HB1; refine (watch_ok B _).mono ?_; rintro e w1 ⟨A, rfl, hl2, hA, hB⟩; have hAB : A ≠ B := fun e => (by have := hR.lt; omega); have HAB := Aside0.mk hAB; have S1 := Aside0.mk (show (Room w1 B 3 5 [0, 0, 0, 0, 0, 0, 0, 0, 0, 0, 0, 0, 0, 0, 0, 0] 0 0 ∧ Wat w1 A B 0 0) from ⟨hR.keeps hB, hA⟩); have HLA := Aside0.mk (show w.heap.size ≤ A from Nat.le_trans hb.size hl2); have HLB := Aside0.mk hl; have HB := Aside0.mk (below_step hb hB); clear hR hA hB hAB hb hl hl2)
    | (go_at_call 47; have s := S1.out; have hb := HB.out; clear S1 HB; refine (come_ok A B 3 5 0 0 7 0 0 [0, 0, 0, 0, 0, 0, 0, 0, 0, 0, 0, 0, 0, 0, 0, 0] _ s.1 s.2 HAB.out (by decide) (by decide) (by decide) (by decide) (by decide)).mono ?_; rintro e w1 ⟨he, hA, hO⟩; obtain rfl : e = .returned (.tuple #[.bool false, .int .i64 0]) := he.trans (by kernel_rfl); have hA' : Wat w1 A B 7 1 := hA; have S2 := Aside0.mk (show (Room w1 B 3 5 [0, 0, 0, 0, 0, 0, 0, 0, 0, 0, 0, 0, 0, 0, 0, 0] 0 0 ∧ Wat w1 A B 7 1) from ⟨s.1.only hO (Ne.symm HAB.out), hA'⟩); have HB := Aside0.mk (hb.trans (hO.below HLA.out hb.size)); clear hA hA' hO he s hb)
    | (go_at_call 44; have s := S2.out; have hb := HB.out; clear S2 HB; refine (vote_ok B 3 5 0 0 0 [0, 0, 0, 0, 0, 0, 0, 0, 0, 0, 0, 0, 0, 0, 0, 0] _ s.1 (by decide) (by decide) (by decide) (by decide)).mono ?_; rintro e w1 ⟨rfl, hR, hO⟩; have hR' : Room w1 B 3 5 [0, 0, 0, 0, 0, 0, 0, 0, 0, 0, 0, 0, 0, 0, 0, 0] 1 1 := hR; have S3 := Aside0.mk (show (Room w1 B 3 5 [0, 0, 0, 0, 0, 0, 0, 0, 0, 0, 0, 0, 0, 0, 0, 0] 1 1 ∧ Wat w1 A B 7 1) from ⟨hR', s.2.only hO HAB.out⟩); have HB := Aside0.mk (hb.trans (hO.below HLB.out hb.size)); clear hR hR' hO s hb)
    | (go_at_call 47; have s := S3.out; have hb := HB.out; clear S3 HB; refine (come_ok A B 3 5 1 1 7 7 1 [0, 0, 0, 0, 0, 0, 0, 0, 0, 0, 0, 0, 0, 0, 0, 0] _ s.1 s.2 HAB.out (by decide) (by decide) (by decide) (by decide) (by decide)).mono ?_; rintro e w1 ⟨he, hA, hO⟩; obtain rfl : e = .returned (.tuple #[.bool false, .int .i64 0]) := he.trans (by kernel_rfl); have hA' : Wat w1 A B 7 2 := hA; have S4 := Aside0.mk (show (Room w1 B 3 5 [0, 0, 0, 0, 0, 0, 0, 0, 0, 0, 0, 0, 0, 0, 0, 0] 1 1 ∧ Wat w1 A B 7 2) from ⟨s.1.only hO (Ne.symm HAB.out), hA'⟩); have HB := Aside0.mk (hb.trans (hO.below HLA.out hb.size)); clear hA hA' hO he s hb)
    | (go_at_call 44; have s := S4.out; have hb := HB.out; clear S4 HB; refine (vote_ok B 3 5 1 1 6 [0, 0, 0, 0, 0, 0, 0, 0, 0, 0, 0, 0, 0, 0, 0, 0] _ s.1 (by decide) (by decide) (by decide) (by decide)).mono ?_; rintro e w1 ⟨rfl, hR, hO⟩; have hR' : Room w1 B 3 5 [0, 6, 0, 0, 0, 0, 0, 0, 0, 0, 0, 0, 0, 0, 0, 0] 0 2 := hR; have S5 := Aside0.mk (show (Room w1 B 3 5 [0, 6, 0, 0, 0, 0, 0, 0, 0, 0, 0, 0, 0, 0, 0, 0] 0 2 ∧ Wat w1 A B 7 2) from ⟨hR', s.2.only hO HAB.out⟩); have HB := Aside0.mk (hb.trans (hO.below HLB.out hb.size)); clear hR hR' hO s hb)
    | (go_at_call 47; have s := S5.out; have hb := HB.out; clear S5 HB; refine (come_ok A B 3 5 0 2 7 7 2 [0, 6, 0, 0, 0, 0, 0, 0, 0, 0, 0, 0, 0, 0, 0, 0] _ s.1 s.2 HAB.out (by decide) (by decide) (by decide) (by decide) (by decide)).mono ?_; rintro e w1 ⟨he, hA, hO⟩; obtain rfl : e = .returned (.tuple #[.bool true, .int .i64 0]) := he.trans (by kernel_rfl); have hA' : Wat w1 A B 7 3 := hA; have S6 := Aside0.mk (show (Room w1 B 3 5 [0, 6, 0, 0, 0, 0, 0, 0, 0, 0, 0, 0, 0, 0, 0, 0] 0 2 ∧ Wat w1 A B 7 3) from ⟨s.1.only hO (Ne.symm HAB.out), hA'⟩); have HB := Aside0.mk (hb.trans (hO.below HLA.out hb.size)); clear hA hA' hO he s hb)
    | (go_at_call 53; have s := S6.out; clear S6; refine (run_ok A B 7 3 _ s.2).mono ?_; rintro e w1 ⟨rfl, rfl⟩; have S7 := Aside0.mk s; clear s)
    | (go_at_call 44; have s := S7.out; have hb := HB.out; clear S7 HB; refine (vote_ok B 3 5 0 2 6 [0, 6, 0, 0, 0, 0, 0, 0, 0, 0, 0, 0, 0, 0, 0, 0] _ s.1 (by decide) (by decide) (by decide) (by decide)).mono ?_; rintro e w1 ⟨rfl, hR, hO⟩; have hR' : Room w1 B 3 5 [6, 6, 0, 0, 0, 0, 0, 0, 0, 0, 0, 0, 0, 0, 0, 0] 1 2 := hR; have S8 := Aside0.mk (show (Room w1 B 3 5 [6, 6, 0, 0, 0, 0, 0, 0, 0, 0, 0, 0, 0, 0, 0, 0] 1 2 ∧ Wat w1 A B 7 3) from ⟨hR', s.2.only hO HAB.out⟩); have HB := Aside0.mk (hb.trans (hO.below HLB.out hb.size)); clear hR hR' hO s hb)
    | (go_at_call 47; have s := S8.out; have hb := HB.out; clear S8 HB; refine (come_ok A B 3 5 1 2 7 7 3 [6, 6, 0, 0, 0, 0, 0, 0, 0, 0, 0, 0, 0, 0, 0, 0] _ s.1 s.2 HAB.out (by decide) (by decide) (by decide) (by decide) (by decide)).mono ?_; rintro e w1 ⟨he, hA, hO⟩; obtain rfl : e = .returned (.tuple #[.bool false, .int .i64 0]) := he.trans (by kernel_rfl); have hA' : Wat w1 A B 7 3 := hA; have S9 := Aside0.mk (show (Room w1 B 3 5 [6, 6, 0, 0, 0, 0, 0, 0, 0, 0, 0, 0, 0, 0, 0, 0] 1 2 ∧ Wat w1 A B 7 3) from ⟨s.1.only hO (Ne.symm HAB.out), hA'⟩); have HB := Aside0.mk (hb.trans (hO.below HLA.out hb.size)); clear hA hA' hO he s hb)
    | (go_at_call 46; have s := S9.out; have hb := HB.out; clear S9 HB; refine (miss_ok A B 7 3 _ s.2).mono ?_; rintro e w1 ⟨rfl, hA, hO⟩; have S10 := Aside0.mk (show (Room w1 B 3 5 [6, 6, 0, 0, 0, 0, 0, 0, 0, 0, 0, 0, 0, 0, 0, 0] 1 2 ∧ Wat w1 A B 7 0) from ⟨s.1.only hO (Ne.symm HAB.out), hA⟩); have HB := Aside0.mk (hb.trans (hO.below HLA.out hb.size)); clear hA hO s hb)
    | (go_at_call 53; have s := S10.out; clear S10; refine (run_ok A B 7 0 _ s.2).mono ?_; rintro e w1 ⟨rfl, rfl⟩; have S11 := Aside0.mk s; clear s)
    | (go_at_call 44; have s := S11.out; have hb := HB.out; clear S11 HB; refine (vote_no B 2147483648 _ (by decide)).mono ?_; rintro e w1 ⟨rfl, hk⟩; have S12 := Aside0.mk (show (Room w1 B 3 5 [6, 6, 0, 0, 0, 0, 0, 0, 0, 0, 0, 0, 0, 0, 0, 0] 1 2 ∧ Wat w1 A B 7 0) from ⟨s.1.keeps hk, s.2.keeps hk⟩); have HB := Aside0.mk (below_step hb hk); clear s hb hk)
    | (go_at_call 40; have s := S12.out; have hb := HB.out; clear S12 HB; refine (new_no 1 0 _ (by decide)).mono ?_; rintro e w1 ⟨rfl, hk⟩; have S13 := Aside0.mk (show (Room w1 B 3 5 [6, 6, 0, 0, 0, 0, 0, 0, 0, 0, 0, 0, 0, 0, 0, 0] 1 2 ∧ Wat w1 A B 7 0) from ⟨s.1.keeps hk, s.2.keeps hk⟩); have HB := Aside0.mk (below_step hb hk); clear s hb hk)
    | (go_at_call 49; have s := S13.out; have hb := HB.out; clear S13 HB; refine (votes_ok B 3 5 1 2 [6, 6, 0, 0, 0, 0, 0, 0, 0, 0, 0, 0, 0, 0, 0, 0] (by decide) (by decide) (by decide) _ s.1).mono ?_; rintro e w1 ⟨v49, rfl, hr, hk⟩; have hr' : Kd.R (Kd.int .i64) 3 w1 _ (fun _ => True) v49 [6, 6] := hr; obtain ⟨A9, c9, rfl⟩ := Kd.R_slice hr'; have HV := Aside0.mk (Kd.R_reads' hr').2; clear hr hr'; have S14 := Aside0.mk (show (Room w1 B 3 5 [6, 6, 0, 0, 0, 0, 0, 0, 0, 0, 0, 0, 0, 0, 0, 0] 1 2 ∧ Wat w1 A B 7 0) from ⟨s.1.keeps hk, s.2.keeps hk⟩); have HB := Aside0.mk (below_step hb hk); clear s hb hk)
    | (go_at_call 25; have s := S14.out; have hb := HB.out; clear S14 HB; have s' := (⟨s.1.keeps (below_alloc (Below.refl _ _) _), s.2.keeps (below_alloc (Below.refl _ _) _)⟩ : (Room (w1.alloc (.cells #[.int .i64 6, .int .i64 6] 3)) B 3 5 [6, 6, 0, 0, 0, 0, 0, 0, 0, 0, 0, 0, 0, 0, 0, 0] 1 2 ∧ Wat (w1.alloc (.cells #[.int .i64 6, .int .i64 6] 3)) A B 7 0)); refine (ints66 A9 c9 w1 (Kd.C_alloc HV.out.2 _) HV.out.1).mono ?_; rintro e w2 ⟨rfl, hd⟩; have hk := drawn_below hd; have S15 := Aside0.mk (show (Room w2 B 3 5 [6, 6, 0, 0, 0, 0, 0, 0, 0, 0, 0, 0, 0, 0, 0, 0] 1 2 ∧ Wat w2 A B 7 0) from ⟨s'.1.keeps hk, s'.2.keeps hk⟩); have HB := Aside0.mk (below_step (below_alloc hb _) hk); clear s s' hb hk hd)
    | (go_at_call 51; have s := S15.out; have hb := HB.out; clear S15 HB; refine (moved_ok B 3 5 1 2 [6, 6, 0, 0, 0, 0, 0, 0, 0, 0, 0, 0, 0, 0, 0, 0] _ s.1 (by decide) (by decide) (by decide)).mono ?_; rintro e w1 ⟨he, hk⟩; obtain rfl : e = .returned (.bool false) := he.trans (by kernel_rfl); clear he; have S16 := Aside0.mk (show (Room w1 B 3 5 [6, 6, 0, 0, 0, 0, 0, 0, 0, 0, 0, 0, 0, 0, 0, 0] 1 2 ∧ Wat w1 A B 7 0) from ⟨s.1.keeps hk, s.2.keeps hk⟩); have HB := Aside0.mk (below_step hb hk); clear s hb hk))
  go_returns
  exact ⟨rfl, HB.out⟩
end Go.Proofs.Ytdhmefdnpiidbaa.Stu

namespace Go.Proofs.Ytdhmefdnpiidbaa.Stu
open Go.RowKit Go.Shelf Go.Proofs.YtdhmefdnpiidbaaW.PrintWords Go.Proofs.YtdhmefdnpiidbaaW.PrintLast
open Go.Proofs.Ytdhmefdnpiidbaa.Vot Go.Proofs.Ytdhmefdnpiidbaa.RG
attribute [local go_sem] Oper.semAt_some
set_option linter.unusedVariables false
set_option linter.unusedSimpArgs false

theorem votes_stops_nil (n : Nat) (Bb n₀ : Nat) (w : World) (hb : Bb < w.heap.size) (hBb : w.cell? ⟨Bb, 0, none⟩ = some (.pointer none)) :
    SeqStopsK Fence.wide n Try.prog 102 #[.pointer (some ⟨Bb, 0, none⟩)] (fun x : Int => #[Value.int .i64 x]) (KR n₀ Bb) (fun ys => ys = []) (fun pre => pre = []) 0 w := fun l J Jx W hW hJ _ hY h0 => by
  have e0 := (hW.cell (p := ⟨Bb, 0, none⟩) hb).trans hBb
  refine callsIn_of_wp Try.func102 rfl trivial ?_ rfl
  simp only [Try.ntmps102, List.size_toArray, List.length_cons, List.length_nil, Nat.reduceAdd, Nat.reduceSub, Array.replicate_succ, Array.replicate_zero, List.push_toArray, List.append_toArray, List.nil_append, List.cons_append]
  gi_wp2
  refine bodyPost_ret (results_none rfl _ _ _) rfl ?_
  first | exact h0 | exact ⟨⟨_, rfl⟩, .inl ⟨_, rfl, h0⟩⟩ | exact ⟨⟨_, rfl⟩, .inl h0⟩

set_option maxRecDepth 100000 in
set_option maxHeartbeats 4000000 in
theorem votes_own_nil (w : World) :
    CallsIn Fence.wide 4 Try.prog 49 #[.pointer none] w fun e W' => e = .returned (.slice none 0 0) ∧ Below w.heap.size w W' := by
  obtain ⟨i0, hi, hz0, hz1, hz2⟩ := info_parts tinfo3
  refine callsIn_of_wp_marks Try.func49 rfl trivial ?_ rfl
  simp only [Try.ntmps49, List.size_toArray, List.length_cons, List.length_nil, Nat.reduceAdd, Nat.reduceSub, Array.replicate_succ, Array.replicate_zero, List.push_toArray, List.append_toArray, List.nil_append, List.cons_append]
  gi_wp2_with ((try refine ⟨trivial, ?_⟩); gi_at_call 88; refine (callsIn_wide.2 (votes_in _ _)).mono ?_; rintro e w' ⟨rfl, rfl⟩)
  have bO := Boxed.new w 29 (.slice none 0 0)
  have bN := Boxed.new (w.alloc (.cells #[.slice none 0 0] 29)) 61 (.pointer (none))
  rw [World.size_alloc] at bN
  have hB0 : Below w.heap.size w ((w.alloc (.cells #[.slice none 0 0] 29)).alloc (.cells #[.pointer (none)] 61)) := ((Below.refl _ w).alloc (Nat.le_refl _) _).alloc (by simp) _
  refine wpIn_rangeFunc_ownG (n := 4) rfl (by decide) (gf := 102) (lb := #[.pointer (some ⟨w.heap.size + 1, 0, none⟩)]) rfl trivial enter102
    (votes_stops_nil 3 (w.heap.size + 1) w.heap.size _ (by simp) bN.cell) KR.trans ?keep (Below.refl _ _) (fun _ => rfl)
    (fun pre W => Boxed W w.heap.size 29 (.slice none 0 0) ∧ Below w.heap.size w W ∧ W.heap[w.heap.size + 1]? = some (.cells #[.pointer (none)] 61 (0, 0)))
    (fun _ _ _ => False)
    ?hI
    (fun _ _ _ _ _ hs _ _ => hs)
    ⟨bO.alloc _, hB0, bN⟩
    (fun x => { tmps := #[.pointer (none), undef, .slice none 0 0, .pointer (some ⟨w.heap.size, 0, none⟩), .int .i64 x, .pointer (none), .func (.func 102) #[] #[.pointer (some ⟨w.heap.size + 1, 0, none⟩)], .int .i64 x, undef, undef, undef, undef, undef], defers := [] }) ?assign ?body ?done ?stop
  case keep =>
    intro W l o o' hl ho hc hw
    have hl2 : w.heap.size + 2 ≤ l := by simpa using hl
    refine ⟨belowK_b (w := w) (Nat.le_refl _) W l o o' (by omega) ho hc hw, ?_⟩
    simp [World.putObj, Array.getElem?_setIfInBounds]
    omega
  case hI =>
    intro s A B' row hs hg hr
    obtain ⟨h1, h2, h3⟩ := hs
    have hr' : ∀ r, row = some r → ∃ o : Obj, A.heap[r]? = some o ∧ o.isCells = false := fun r e => (hr r e).2
    exact ⟨cells_own w.heap.size 29 (fun _ : Unit => #[.slice none 0 0]) () A B' row h1 hg hr',
      ownFrom_below (Nat.le_refl _) (by simp; omega) () A B' row h2 hg hr, cells_own (w.heap.size + 1) 61 (fun _ : Unit => #[.pointer (none)]) () A B' row h3 hg hr'⟩
  case assign =>
    intro l x W K hK
    gi_wp2
    exact hK
  case body =>
    rintro l pre x W _ hlt
    omega
  case done =>
    rintro D ys W hD rfl ⟨hv, hB, hx⟩ hK
    have hc := hv.cell
    gi_wp2
    refine ⟨by simp, .inl ⟨_, _, rfl, run_takeDeferred hK, ?_⟩⟩
    exact ⟨_, results_tmp rfl _ _ _, rfl, hB.trans (belowK_b (w := w) (Nat.le_refl _) W D _ _ (by simp at hD; omega) hK rfl rfl)⟩
  case stop =>
    rintro D c pre W _ _ h _
    exact h.elim


theorem votes_nil (w : World) : Calls Try.prog 49 #[.pointer none] w fun e W' => e = .returned (.slice none 0 0) ∧ Below w.heap.size w W' := callsIn_wide.1 (votes_own_nil w)

attribute [local go_sem] uponRG_value uponRG_skip uponRG_enter
set_option maxRecDepth 100000 in
set_option maxHeartbeats 1000000 in
theorem moved_nil (w : World) : Calls Try.prog 51 #[.pointer none] w fun e w' => e = .returned (.bool false) ∧ Below w.heap.size w w' := by
  go_enter Try.func51, Try.ntmps51
  go_wp2
  refine (wpIn_wide (n := 0)).1 ?_
  refine wpIn_rg0 25 [some (.pointer none), some (.bool false), some (.bool false), some (undef), some (undef), some (undef), some (undef), some (undef), some (undef), some (undef), some (undef), some (undef), some (undef), some (.bool false), some (.bool false), some (undef), some (undef), some (undef), some (undef), some (undef), some (undef), some (undef), some (undef), some (.bool false), some (.bool false)] (by kernel_rfl) (by kernel_rfl) ?_
  simp only [List.take_succ_cons, List.take_zero, List.drop_succ_cons, List.drop_zero]
  (try simp only [Act.put, List.setIfInBounds_toArray, List.set_cons_succ, List.set_cons_zero])
  refine rg_val0 _ rfl (fun V hV => opRG_run (fun _ => trivial) (by rfl) ?_) ?_
  · go_simp
    exact Keeps.refl _
  (try simp only [Act.put, List.setIfInBounds_toArray, List.set_cons_succ, List.set_cons_zero])
  refine rg_val0 _ rfl (fun V hV => opRG_run (fun _ => trivial) (by rfl) ?_) ?_
  · go_simp
    exact Keeps.refl _
  (try simp only [Act.put, List.setIfInBounds_toArray, List.set_cons_succ, List.set_cons_zero])
  refine rg_val0 _ rfl (fun V hV => opRG_run (fun _ => trivial) (by rfl) ?_) ?_
  · go_simp
    exact Keeps.refl _
  (try simp only [Act.put, List.setIfInBounds_toArray, List.set_cons_succ, List.set_cons_zero])
  refine rg_val0 _ rfl (fun V hV => opRG_not (fun _ => trivial) (by rfl) ⟨rfl, Keeps.refl _⟩) ?_
  (try simp only [Act.put, List.setIfInBounds_toArray, List.set_cons_succ, List.set_cons_zero])
  refine rg_val0 _ rfl (fun V hV => opRG_not (fun _ => trivial) (by rfl) ⟨rfl, Keeps.refl _⟩) ?_
  (try simp only [Act.put, List.setIfInBounds_toArray, List.set_cons_succ, List.set_cons_zero])
  refine rg_val0 _ rfl (fun V hV => opRG_not (fun _ => trivial) (by rfl) ⟨rfl, Keeps.refl _⟩) ?_
  (try simp only [Act.put, List.setIfInBounds_toArray, List.set_cons_succ, List.set_cons_zero])
  refine rg_val0 _ rfl (fun V hV => opRG_not (fun _ => trivial) (by rfl) ⟨rfl, Keeps.refl _⟩) ?_
  (try simp only [Act.put, List.setIfInBounds_toArray, List.set_cons_succ, List.set_cons_zero])
  refine rg_val0 _ rfl (fun V hV => opRG_not (fun _ => trivial) (by rfl) ⟨rfl, Keeps.refl _⟩) ?_
  (try simp only [Act.put, List.setIfInBounds_toArray, List.set_cons_succ, List.set_cons_zero])
  refine rg_val0 _ rfl (fun V hV => opRG_not (fun _ => trivial) (by rfl) ⟨rfl, Keeps.refl _⟩) ?_
  (try simp only [Act.put, List.setIfInBounds_toArray, List.set_cons_succ, List.set_cons_zero])
  refine rg_val0 _ rfl (fun V hV => opRG_not (fun _ => trivial) (by rfl) ⟨rfl, Keeps.refl _⟩) ?_
  (try simp only [Act.put, List.setIfInBounds_toArray, List.set_cons_succ, List.set_cons_zero])
  refine rg_val0 _ rfl (fun V hV => opRG_not (fun _ => trivial) (by rfl) ⟨rfl, Keeps.refl _⟩) ?_
  (try simp only [Act.put, List.setIfInBounds_toArray, List.set_cons_succ, List.set_cons_zero])
  refine rg_val0 _ rfl (fun V hV => opRG_not (fun _ => trivial) (by rfl) ⟨rfl, Keeps.refl _⟩) ?_
  (try simp only [Act.put, List.setIfInBounds_toArray, List.set_cons_succ, List.set_cons_zero])
  refine rg_val0 _ rfl (fun V hV => opRG_not (fun _ => trivial) (by rfl) ⟨rfl, Keeps.refl _⟩) ?_
  (try simp only [Act.put, List.setIfInBounds_toArray, List.set_cons_succ, List.set_cons_zero])
  refine rg_val0 _ rfl (fun V hV => opRG_run (fun _ => trivial) (by rfl) ?_) ?_
  · go_simp
    exact Keeps.refl _
  (try simp only [Act.put, List.setIfInBounds_toArray, List.set_cons_succ, List.set_cons_zero])
  refine rg_val0 _ rfl (fun V hV => opRG_run (fun _ => trivial) (by rfl) ?_) ?_
  · go_simp
    exact Keeps.refl _
  (try simp only [Act.put, List.setIfInBounds_toArray, List.set_cons_succ, List.set_cons_zero])
  refine rg_val0 _ rfl (fun V hV => opRG_not (fun _ => trivial) (by rfl) ⟨rfl, Keeps.refl _⟩) ?_
  (try simp only [Act.put, List.setIfInBounds_toArray, List.set_cons_succ, List.set_cons_zero])
  refine rg_val0 _ rfl (fun V hV => opRG_not (fun _ => trivial) (by rfl) ⟨rfl, Keeps.refl _⟩) ?_
  (try simp only [Act.put, List.setIfInBounds_toArray, List.set_cons_succ, List.set_cons_zero])
  refine rg_val0 _ rfl (fun V hV => opRG_not (fun _ => trivial) (by rfl) ⟨rfl, Keeps.refl _⟩) ?_
  (try simp only [Act.put, List.setIfInBounds_toArray, List.set_cons_succ, List.set_cons_zero])
  refine rg_val0 _ rfl (fun V hV => opRG_not (fun _ => trivial) (by rfl) ⟨rfl, Keeps.refl _⟩) ?_
  (try simp only [Act.put, List.setIfInBounds_toArray, List.set_cons_succ, List.set_cons_zero])
  refine rg_val0 _ rfl (fun V hV => opRG_not (fun _ => trivial) (by rfl) ⟨rfl, Keeps.refl _⟩) ?_
  (try simp only [Act.put, List.setIfInBounds_toArray, List.set_cons_succ, List.set_cons_zero])
  refine rg_val0 _ rfl (fun V hV => opRG_not (fun _ => trivial) (by rfl) ⟨rfl, Keeps.refl _⟩) ?_
  (try simp only [Act.put, List.setIfInBounds_toArray, List.set_cons_succ, List.set_cons_zero])
  refine rg_val0 _ rfl (fun V hV => opRG_not (fun _ => trivial) (by rfl) ⟨rfl, Keeps.refl _⟩) ?_
  (try simp only [Act.put, List.setIfInBounds_toArray, List.set_cons_succ, List.set_cons_zero])
  refine rg_val0 _ rfl (fun V hV => opRG_not (fun _ => trivial) (by rfl) ⟨rfl, Keeps.refl _⟩) ?_
  (try simp only [Act.put, List.setIfInBounds_toArray, List.set_cons_succ, List.set_cons_zero])
  refine rg_val0 _ rfl (fun V hV => opRG_run (fun _ => trivial) (by rfl) ?_) ?_
  · go_simp
    exact Keeps.refl _
  (try simp only [Act.put, List.setIfInBounds_toArray, List.set_cons_succ, List.set_cons_zero])
  refine rg_val0 _ rfl (fun V hV => opRG_run (fun _ => trivial) (by rfl) ?_) ?_
  · go_simp
    exact Keeps.refl _
  refine rgWalk.nil fun us V hV hu _ => ?_
  clear hu us
  gi_wp2
  go_wp2
  go_returns
  exact ⟨rfl, (Below.refl _ w).trans ⟨hV.os, hV.tape, hV.output, hV.size, hV.block⟩⟩
end Go.Proofs.Ytdhmefdnpiidbaa.Stu
