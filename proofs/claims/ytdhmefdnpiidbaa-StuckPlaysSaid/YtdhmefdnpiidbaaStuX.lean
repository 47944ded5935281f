/- rudderlaw09.StuckPlays. -/
/- rudderlaw09.StuckPlays. -/
/- rudderlaw09.StuckPlays, at every input. -/
import Derived.Test.YtdhmefdnpiidbaaPureStuckPlays
import Derived.Test.YtdhmefdnpiidbaaStuL
namespace Go.Proofs.Ytdhmefdnpiidbaa.Stu
open Go.RowKit Go.Proofs.YtdhmefdnpiidbaaW.PrintWords Go.Proofs.YtdhmefdnpiidbaaW.PrintLast Go.Proofs.YtdhmefdnpiidbaaW.PrintMore
open Go.Proofs.Ytdhmefdnpiidbaa.Base Go.Proofs.Ytdhmefdnpiidbaa.RG Go.Proofs.Ytdhmefdnpiidbaa.Ord
attribute [local go_sem] uponRG_value uponRG_skip uponRG_enter
set_option linter.unusedVariables false
set_option linter.unusedSimpArgs false

/-- The acts, as they lie. -/
def ActsC (W : World) (A : Option Addr) (l : List (Int × Bool × Int)) : Prop :=
  ∀ j x, l[j]? = some x → ∃ ad, A = some ad ∧ W.cell? (ad.add (j * 3)) = some (.int .u8 x.1) ∧ W.cell? (ad.add (j * 3 + 1)) = some (.bool x.2.1) ∧ W.cell? (ad.add (j * 3 + 2)) = some (.int .i64 x.2.2)

theorem cellK (W : World) (a : Addr) (j : Nat) (h : j ≠ 0) : W.cell? (a.add j) = W.cell? ⟨a.block, a.off + j, none⟩ := by
  unfold Addr.add
  rw [if_neg h]
theorem intsSame (A A' : Option Addr) (c c' : Nat) (l : List Int) (w : World) (hl : l.length ≤ 1000) (h : Kd.C (Kd.int .i64) w A l.length l) (hc : l.length ≤ c) (h' : Kd.C (Kd.int .i64) w A' l.length l) (hc' : l.length ≤ c') :
    Calls Try.prog 25 #[.slice A l.length c, .slice A' l.length c'] w fun e w' => e = .returned (.bool true) ∧ Drawn0 w w' := by
  obtain ⟨k, hk⟩ := Ref.ev_ints l l (by omega)
  exact rudderref02_Ints.calls k A c l A' c' l true w h hc h' hc' (by have := hk k (Nat.le_refl _); simpa using this)
/-- The blocks that are neither of the three. -/
def okB3 (A B D : Nat) : Nat → Prop := fun j => j ≠ A ∧ j ≠ B ∧ j ≠ D
/-- While the two votes come, in any order. -/
def PlayJ (A B D : Nat) (wd bd : Int) (ring : List Int) (at_ n : Int) (ring' : List Int) (at' n' : Int) (L L' : List Int) (bs : List Bool) (_ : List Value) (V : World) : Prop :=
  (if bs.getD 0 false = true then Room V B wd bd ring' at' n' else Room V B wd bd ring at_ n) ∧ (if bs.getD 1 false = true then RefR V D wd bd (okB3 A B D) L' else RefR V D wd bd (okB3 A B D) L)
section
variable {A B D : Nat} {wd bd : Int} {ring : List Int} {at_ n : Int} {ring' : List Int} {at' n' : Int} {L L' : List Int} {a b : Bool} {us us' : List Value} {V V' : World}
theorem PlayJ.keeps (bs : List Bool) (us : List Value) (V V' : World) (hk : Keeps V V') (h : PlayJ A B D wd bd ring at_ n ring' at' n' L L' bs us V) : PlayJ A B D wd bd ring at_ n ring' at' n' L L' bs us V' := by
  obtain ⟨h1, h2⟩ := h
  refine ⟨?_, ?_⟩
  · split at h1
    · rw [if_pos (by assumption)]; exact h1.keeps hk
    · rw [if_neg (by assumption)]; exact h1.keeps hk
  · split at h2
    · rw [if_pos (by assumption)]; exact h2.keeps hk
    · rw [if_neg (by assumption)]; exact h2.keeps hk
theorem PlayJ.lt (h : PlayJ A B D wd bd ring at_ n ring' at' n' L L' [a, b] us V) : B < V.heap.size := by
  have h1 := h.1
  split at h1 <;> exact h1.lt
theorem PlayJ.room (h : PlayJ A B D wd bd ring at_ n ring' at' n' L L' [a, b] us V) (ha : a = false) : Room V B wd bd ring at_ n := by subst ha; exact h.1
theorem PlayJ.ref (h : PlayJ A B D wd bd ring at_ n ring' at' n' L L' [a, b] us V) (hb : b = false) : RefR V D wd bd (okB3 A B D) L := by subst hb; exact h.2
theorem PlayJ.vote (h : PlayJ A B D wd bd ring at_ n ring' at' n' L L' [a, b] us V) (hR : Room V' B wd bd ring' at' n') (hO : Only B V V') (hDB : D ≠ B) : PlayJ A B D wd bd ring at_ n ring' at' n' L L' [true, b] us' V' := by
  refine ⟨hR, ?_⟩
  have h2 := h.2
  cases b with
  | true => exact RefR.only h2 hO hDB (fun j hj => hj.2.1)
  | false => exact RefR.only h2 hO hDB (fun j hj => hj.2.1)
theorem PlayJ.rvote (h : PlayJ A B D wd bd ring at_ n ring' at' n' L L' [a, b] us V) (hR : RefR V' D wd bd (okB3 A B D) L') (hO : Only D V V') (hDB : D ≠ B) : PlayJ A B D wd bd ring at_ n ring' at' n' L L' [a, true] us' V' := by
  refine ⟨?_, hR⟩
  have h1 := h.1
  cases a with
  | true => exact Room.only h1 hO (Ne.symm hDB)
  | false => exact Room.only h1 hO (Ne.symm hDB)
end
theorem wrap1 {k : Nat} (h : k ≤ 200) : IntKind.i64.wrap ((k : Int) + 1) = (k : Int) + 1 := (i64_w _).trans (by unfold wrap64; omega)
theorem min_mn (a b : Int) : min a b = mn a b := by unfold mn; split <;> omega
/-- What a vote does, right or not. -/
theorem vote_any (A B D : Nat) (wd bd at_ n v : Int) (ring L : List Int) (last run : Int) (cs : List Int) (hp : Plays wd ring at_ n L last run cs) (hL : L.length ≤ 200) (hAB : A ≠ B) (hDB : D ≠ B) (hDA : D ≠ A) :
    ∃ (r : Int) (ring' : List Int) (at' n' : Int) (L' : List Int), Plays wd ring' at' n' L' last run cs ∧ L'.length ≤ L.length + 1 ∧
      (∀ V, Room V B wd bd ring at_ n → Calls Try.prog 44 #[.pointer (some ⟨B, 0, none⟩), .int .i64 v] V fun e w' => e = .returned (.int .i64 r) ∧ Room w' B wd bd ring' at' n' ∧ Only B V w') ∧
      (∀ V, A < V.heap.size → B < V.heap.size → RefR V D wd bd (okB3 A B D) L → Calls Try.prog 45 #[.pointer (some ⟨D, 0, none⟩), .int .i64 v] V fun e w' => e = .returned (.int .i64 r) ∧ RefR w' D wd bd (okB3 A B D) L' ∧ Only D V w') := by
  have hw := hp.hw
  have ba := hp.ba
  have bn := hp.bn
  by_cases hv : rightI v = true
  · refine ⟨0, _, _, _, _, hp.vote v, by simp, fun V h => vote_ok B wd bd at_ n v ring V h hw (by omega) (by omega) hv, fun V ha hb h => rvote_ok D wd bd v _ L V h (fun k hk => ⟨by omega, by omega, by have := h.lt; omega⟩) (fun k hk => hk.2.2) (by omega) hv⟩
  · have hv' : rightI v = false := by simpa using hv
    refine ⟨1, ring, at_, n, L, hp, by omega, fun V h => (vote_no B v V hv').mono fun e w' ⟨he, hk⟩ => ⟨he, h.keeps hk, Only.of hk⟩, fun V ha hb h => (rvote_no D v V hv').mono fun e w' ⟨he, hk⟩ => ⟨he, h.keeps hk, Only.of hk⟩⟩
/-- What a value does, right or not. -/
theorem come_any (A B D : Nat) (wd bd at_ n v : Int) (ring L : List Int) (last run : Int) (cs : List Int) (Ac : Option Addr) (cc : Nat) (hp : Plays wd ring at_ n L last run cs) (hL : L.length ≤ 200) (hcs : cs.length ≤ 200) (hAB : A ≠ B) (hDB : D ≠ B) (hDA : D ≠ A) :
    ∃ (r : Int) (b : Bool) (last' run' : Int) (cs' : List Int), Plays wd ring at_ n L last' run' cs' ∧ cs'.length ≤ cs.length + 1 ∧
      (∀ V, Room V B wd bd ring at_ n → Wat V A B last run → Calls Try.prog 47 #[.pointer (some ⟨A, 0, none⟩), .int .i64 v] V fun e w' => e = .returned (.tuple #[.bool b, .int .i64 r]) ∧ Wat w' A B last' run' ∧ Only A V w') ∧
      (∀ V, A < V.heap.size → B < V.heap.size → RefR V D wd bd (okB3 A B D) L → Kd.R (Kd.int .i64) 3 V 0 (okB3 A B D) (.slice Ac cs.length cc) cs → Calls Try.prog 48 #[.pointer (some ⟨D, 0, none⟩), .slice Ac cs.length cc, .int .i64 v] V fun e w' => ∃ A' c', e = .returned (.tuple #[.slice A' cs'.length c', .bool b, .int .i64 r]) ∧ Kd.R (Kd.int .i64) 3 w' 0 (okB3 A B D) (.slice A' cs'.length c') cs' ∧ Below V.heap.size V w') := by
  have hw := hp.hw
  have ba := hp.ba
  have bn := hp.bn
  have br := hp.br
  by_cases hv : rightI v = true
  · refine ⟨0, _, _, _, _, hp.come v, comeL_length cs v, fun V h hwa => (come_ok A B wd bd at_ n v last run ring V h hwa hAB hw ba bn br hv), fun V ha hb h hc => ?_⟩
    rw [hp.frozen bd v]
    refine (rcome_ok D wd bd v _ L cs Ac cc V h hw (by omega) hv (Kd.R_reads' hc).2.2 (Kd.R_reads' hc).2.1 (by omega)).mono ?_
    rintro e w' ⟨u, rfl, hr, hk⟩
    obtain ⟨A', c', rfl⟩ := Kd.R_slice hr
    exact ⟨A', c', rfl, Kd.R_lower (Kd.R_mono (Kd.R_bound hr) (fun k hk => ⟨by have := hk.2.1; omega, by have := hk.2.1; omega, by have := hk.2.1; have := h.lt; omega⟩)) (Nat.zero_le _), hk⟩
  · have hv' : rightI v = false := by simpa using hv
    refine ⟨1, false, last, run, cs, hp, by omega, fun V h hwa => (come_no A v V hv').mono fun e w' ⟨he, hk⟩ => ⟨he, hwa.keeps hk, Only.of hk⟩, fun V ha hb h hc => (rcome_no D v Ac cs.length cc V hv').mono fun e w' ⟨he, hk⟩ => ⟨Ac, cc, he, Kd.R_below hc hk, hk⟩⟩
theorem may_eq (wd bd : Int) : rudderref09_May.f wd bd = some (newB wd bd) := by
  unfold rudderref09_May.f newB rightI
  by_cases h1 : wd ≥ 2
  · by_cases h2 : wd ≤ 16
    · by_cases h3 : bd ≥ 0
      · rw [if_pos h1, if_pos h2, if_pos h3]
        have e1 : decide (2 ≤ wd) = true := decide_eq_true h1
        have e2 : decide (wd ≤ 16) = true := decide_eq_true h2
        have e3 : decide (0 ≤ bd) = true := decide_eq_true h3
        have e4 : decide (-2147483648 ≤ bd) = true := decide_eq_true (by omega)
        rw [e1, e2, e3, e4]
        rfl
      · rw [if_pos h1, if_pos h2, if_neg h3, decide_eq_false (show ¬ 0 ≤ bd from h3)]
        simp
    · rw [if_pos h1, if_neg h2, decide_eq_false h2]
      simp
  · rw [if_neg h1, decide_eq_false (show ¬ 2 ≤ wd from h1)]
    simp
theorem newB_facts {wd bd : Int} (h : newB wd bd = true) : (2 ≤ wd ∧ wd ≤ 16) ∧ decide (wd < 2) = false ∧ decide (16 < wd) = false ∧ decide (bd < 0) = false ∧ rightI bd = true := by
  unfold newB at h
  simp only [Bool.and_eq_true, decide_eq_true_eq] at h
  obtain ⟨⟨⟨h1, h2⟩, h3⟩, h4⟩ := h
  exact ⟨⟨h1, h2⟩, decide_eq_false (by omega), decide_eq_false (by omega), decide_eq_false (by omega), h4⟩

set_option maxRecDepth 100000 in
set_option maxHeartbeats 8000000 in
theorem plays_long (wd bd : Int) (A0 : Option Addr) (c0 : Nat) (l : List (Int × Bool × Int)) (w : World) (hl : 200 < l.length) :
    Calls Try.prog 10 #[.int .i64 wd, .int .i64 bd, .slice A0 l.length c0] w fun e w' => e = .returned (.bool true) ∧ Below w.heap.size w w' := by
  have hl2 : decide ((200 : Int) < (l.length : Int)) = true := decide_eq_true (by omega)
  go_enter Try.func10, Try.ntmps10
  go_wp2_with (go_at_call 39; refine (alive_ok _).mono ?_; rintro e w1 ⟨rfl, hb⟩; have HB := Aside0.mk hb; clear hb)
  go_returns
  exact ⟨rfl, HB.out⟩

set_option maxRecDepth 100000 in
set_option maxHeartbeats 8000000 in
theorem plays_no (wd bd : Int) (A0 : Option Addr) (c0 : Nat) (l : List (Int × Bool × Int)) (w : World) (hl : ¬ 200 < l.length) (hm : newB wd bd = false) :
    Calls Try.prog 10 #[.int .i64 wd, .int .i64 bd, .slice A0 l.length c0] w fun e w' => e = .returned (.bool true) ∧ Below w.heap.size w w' := by
  have hl2 : decide ((200 : Int) < (l.length : Int)) = false := decide_eq_false (by omega)
  have HM := Aside0.mk hm
  clear hm
  go_enter Try.func10, Try.ntmps10
  go_wp2_with (first
    | (go_at_call 40; refine (new_no wd bd _ HM.out).mono ?_; rintro e w1 ⟨rfl, hb⟩; have HB := Aside0.mk hb; clear hb)
    | (go_at_call 41; refine (rudderref09_May.calls _ _ _ _ (by rw [may_eq, HM.out])).mono ?_; rintro e w2 ⟨rfl, hd⟩; have n := Aside0.mk (below_step HB.out (drawn_below hd)); clear hd HB; have HB := n; clear n)
    | (go_at_call 39; refine (alive_ok _).mono ?_; rintro e w3 ⟨rfl, hb⟩; have n := Aside0.mk (below_step HB.out hb); clear hb HB; have HB := n; clear n))
  go_returns
  exact ⟨rfl, HB.out⟩

end Go.Proofs.Ytdhmefdnpiidbaa.Stu

namespace Go.Proofs.Ytdhmefdnpiidbaa.Stu
open Go.RowKit Go.Proofs.YtdhmefdnpiidbaaW.PrintWords Go.Proofs.YtdhmefdnpiidbaaW.PrintLast Go.Proofs.YtdhmefdnpiidbaaW.PrintMore
open Go.Proofs.Ytdhmefdnpiidbaa.Base Go.Proofs.Ytdhmefdnpiidbaa.RG Go.Proofs.Ytdhmefdnpiidbaa.Ord
attribute [local go_sem] uponRG_value uponRG_skip uponRG_enter
set_option linter.unusedVariables false
set_option linter.unusedSimpArgs false



set_option maxRecDepth 100000 in
set_option maxHeartbeats 8000000 in
theorem plays_main (wd bd : Int) (A0 : Option Addr) (c0 : Nat) (l : List (Int × Bool × Int)) (w : World) (hl : ¬ 200 < l.length) (hm : newB wd bd = true) (hA : ActsC w A0 l) (hk : ∀ x ∈ l, 0 ≤ x.1 ∧ x.1 ≤ 255) :
    Calls Try.prog 10 #[.int .i64 wd, .int .i64 bd, .slice A0 l.length c0] w fun e w' => e = .returned (.bool true) ∧ Below w.heap.size w w' := by
  have hl2 : decide ((200 : Int) < (l.length : Int)) = false := decide_eq_false (by omega)
  have hu := Try.underlying71
  have hu2 := Try.underlying69
  obtain ⟨hw, g1, g2, g3, g4⟩ := newB_facts hm
  have HM := Aside0.mk hm
  have HW := Aside0.mk hw
  have HA := Aside0.mk hA
  have HK := Aside0.mk hk
  have HG := Aside0.mk (And.intro g1 (And.intro g2 (And.intro g3 g4)))
  have HLN := Aside0.mk (show l.length ≤ 200 by omega)
  clear hm hA hk hw g1 g2 g3 g4 hl
  go_enter Try.func10, Try.ntmps10
  go_wp2_with (first
    | (go_at_call 40; refine (new_ok wd bd _ HG.out.1 HG.out.2.1 HG.out.2.2.1 HG.out.2.2.2).mono ?_; rintro e w1 ⟨B, rfl, hl, hR, hb⟩; have HLB := Aside0.mk hl; have HR := Aside0.mk hR; have HB := Aside0.mk hb; clear hl hR hb)
    | (go_at_call 41; refine (rudderref09_May.calls _ _ _ _ (by rw [may_eq, HM.out])).mono ?_; rintro e w2 ⟨rfl, hd⟩; have n := Aside0.mk (below_step HB.out (drawn_below hd)); have n2 := Aside0.mk (HR.out.keeps (drawn_below hd)); clear hd HB HR; have HB := n; have HR := n2; clear n n2)
    | (go_at_call 42; refine (watch_ok B _).mono ?_; rintro e w3 ⟨A, rfl, hl, hA, hb⟩; have HLA := Aside0.mk (show w.heap.size ≤ A from Nat.le_trans HB.out.size hl); have HAB := Aside0.mk (show A ≠ B from fun e => (by have := HR.out.lt; omega)); have n := Aside0.mk (below_step HB.out hb); have n2 := Aside0.mk (HR.out.keeps hb); have HWA := Aside0.mk hA; clear hb HB HR hl hA; have HB := n; have HR := n2; clear n n2)
    | (go_at_call 43; refine (begin_ok wd bd _).mono ?_; rintro e w4 ⟨D, rfl, hl, hD, hb⟩; have HLD := Aside0.mk (show w.heap.size ≤ D from Nat.le_trans HB.out.size hl); have HDB := Aside0.mk (show D ≠ B from fun e => (by have := HR.out.lt; omega)); have HDA := Aside0.mk (show D ≠ A from fun e => (by have := HWA.out.lt; omega)); have n := Aside0.mk (below_step HB.out hb); have n2 := Aside0.mk (HR.out.keeps hb); have n3 := Aside0.mk (HWA.out.keeps hb); have HRF := Aside0.mk (hD (okB3 A B D)); clear hb HB HR HWA hl hD; have HB := n; have HR := n2; have HWA := n3; clear n n2 n3))
  go_loopw [13, 12] (fun i came wr => ∃ (k : Nat) (ring : List Int) (at_ n : Int) (L : List Int) (last run : Int) (cs : List Int) (Ac : Option Addr) (cc : Nat), i = .int .i64 k ∧ came = .slice Ac cs.length cc ∧ k ≤ l.length ∧ Aside0 (L.length ≤ k) ∧ Aside0 (cs.length ≤ k) ∧ Aside0 (Room wr B wd bd ring at_ n) ∧ Aside0 (Wat wr A B last run) ∧ Aside0 (RefR wr D wd bd (okB3 A B D) L) ∧ Aside0 (Kd.R (Kd.int .i64) 3 wr 0 (okB3 A B D) (.slice Ac cs.length cc) cs) ∧ Aside0 (Below w.heap.size w wr) ∧ Aside0 (Plays wd ring at_ n L last run cs)) (fun i _ _ => l.length - (intOf i).toNat)
  case atStart =>
    exact ⟨0, _, 0, 0, [], 0, 0, [], none, 0, rfl, rfl, Nat.zero_le _, ⟨Nat.le_refl _⟩, ⟨Nat.le_refl _⟩, HR, HWA, HRF, ⟨Kd.R_nil _ _ _ _ _⟩, HB, ⟨Plays.start HW.out⟩⟩
  case round =>
    obtain ⟨k, ring, at_, n, L, last, run, cs, Ac, cc, rfl, rfl, hk, HLL, HCL, HR1, HW1, HD1, HC1, HB1, HP⟩ := hrel
    by_cases hlt : k < l.length
    · obtain ⟨⟨kind, miss, v⟩, hx⟩ : ∃ x, l[k]? = some x := ⟨l[k], by simp [hlt]⟩
      obtain ⟨ad, hA0, a0, a1, a2⟩ := HA.out k _ hx
      subst hA0
      have hkk := HK.out _ (List.mem_of_getElem? hx)
      dsimp only at a0 a1 a2 hkk
      have X0 : wr.cell? (ad.add (k * 3)) = some (.int .u8 kind) := pw_cell_below HB1.out a0
      have X1 : wr.cell? ⟨(ad.add (k * 3)).block, (ad.add (k * 3)).off + 1, none⟩ = some (.bool miss) := by rw [← cellK _ _ _ (by decide), add_add]; exact pw_cell_below HB1.out a1
      have X2 : wr.cell? ⟨(ad.add (k * 3)).block, (ad.add (k * 3)).off + 1 + 1, none⟩ = some (.int .i64 v) := by rw [Nat.add_assoc, ← cellK _ _ _ (by decide), add_add]; exact pw_cell_below HB1.out a2
      clear a0 a1 a2
      have hk1 : decide ((k : Int) < (l.length : Int)) = true := decide_eq_true (by omega)
      have hk2 : ((k : Int) < (l.length : Int)) = True := eq_true (by omega)
      have HKK := Aside0.mk (show k + 1 ≤ 1000 by have := HLN.out; omega)
      have hwk := wrap1 (k := k) (by have := HLN.out; omega)
      have X4 : (wr.alloc (.cells #[.bool miss, .int .i64 v] 69)).cell? (ad.add (k * 3)) = some (.int .u8 kind) := pw_cell_below (below_alloc (Below.refl _ _) _) X0
      have hk0 : Keeps wr (wr.alloc (.cells #[.bool miss, .int .i64 v] 69)) := below_alloc (Below.refl _ _) _
      have HR2 := Aside0.mk (HR1.out.keeps hk0)
      have HW2 := Aside0.mk (HW1.out.keeps hk0)
      have HD2 := Aside0.mk (HD1.out.keeps hk0)
      have HC2 := Aside0.mk (Kd.R_below HC1.out hk0)
      have HB2 := Aside0.mk (below_step HB1.out hk0)
      have HX2 := Aside0.mk (blk_new wr (.cells #[.bool miss, .int .i64 v] 69))
      have HLT := Aside0.mk (show A < wr.heap.size ∧ B < wr.heap.size ∧ D < wr.heap.size from ⟨HW1.out.lt, HR1.out.lt, HD1.out.lt⟩)
      have hbk : Int.tmod kind 2 = 0 ∨ Int.tmod kind 2 = 1 := by have := Int.tmod_nonneg 2 hkk.1; have := Int.tmod_lt_of_pos kind (show (0:Int) < 2 by omega); omega
      have hu80 : IntKind.u8.wrap 0 = 0 := by decide
      have hu81 : IntKind.u8.wrap 1 = 1 := by decide
      clear hk0 HR1 HW1 HD1 HC1 HB1 hx hkk
      rcases hbk with hev | hodd
      · cases miss with
        | true =>
          have HR := HR2
          have HWA := HW2
          have HD := HD2
          have HC := HC2
          have HB := HB2
          clear HR2 HW2 HD2 HC2 HB2
          have hP' := HP.out.miss
          have hmin : min (0 : Int) wd = 0 := (min_mn _ _).trans hP'.hrun.symm
          have HPn := Aside0.mk hP'
          have HLn := Aside0.mk (show L.length ≤ k + 1 by have := HLL.out; omega)
          have HCn := Aside0.mk (show ([] : List Int).length ≤ k + 1 by simp)
          clear hP' HP HLL HCL
          have HP := HPn
          have HLL := HLn
          have HCL := HCn
          clear HPn HLn HCn
          go_wp2_with (first
            | (go_at_call 46; refine (miss_ok A B last run _ HWA.out).mono ?_; rintro e w5 ⟨rfl, hA', hO⟩; have m_HR := Aside0.mk (HR.out.only hO (Ne.symm HAB.out)); have m_HWA := Aside0.mk hA'; have m_HD := Aside0.mk (HD.out.only hO HDA.out (fun j hj => hj.1)); have m_HC := Aside0.mk (Kd.R_nil (Kd.int .i64) 3 w5 0 (okB3 A B D)); have m_HB := Aside0.mk (HB.out.trans (hO.below HLA.out HB.out.size)); clear HR HWA HD HC HB hA' hO; have HR := m_HR; have HWA := m_HWA; have HD := m_HD; have HC := m_HC; have HB := m_HB; clear m_HR m_HWA m_HD m_HC m_HB)
            | (go_at_call 49; refine (votes_ok B wd bd at_ n ring HW.out HP.out.ba HP.out.bn _ HR.out).mono ?_; rintro e w5 ⟨v49, rfl, hr, hk⟩; rw [HP.out.votes] at hr; obtain ⟨A5, c5, rfl⟩ := Kd.R_slice hr; have HV := Aside0.mk (Kd.R_reads' hr).2; clear hr; have m_HR := Aside0.mk (HR.out.keeps hk); have m_HWA := Aside0.mk (HWA.out.keeps hk); have m_HD := Aside0.mk (HD.out.keeps hk); have m_HC := Aside0.mk (Kd.R_below HC.out hk); have m_HB := Aside0.mk (below_step HB.out hk); clear HR HWA HD HC HB hk; have HR := m_HR; have HWA := m_HWA; have HD := m_HD; have HC := m_HC; have HB := m_HB; clear m_HR m_HWA m_HD m_HC m_HB)
            | (go_at_call 50; refine (rvotes_ok D wd bd _ L _ HD.out HW.out (Nat.le_trans HLL.out HKK.out)).mono ?_; rintro e w6 ⟨A6, c6, rfl, hc6, hr6, hk⟩; have HV6 := Aside0.mk (And.intro hc6 hr6); have HVn := Aside0.mk (And.intro HV.out.1 (Kd.C_below HV.out.2 hk)); clear HV hc6 hr6; have m_HR := Aside0.mk (HR.out.keeps hk); have m_HWA := Aside0.mk (HWA.out.keeps hk); have m_HD := Aside0.mk (HD.out.keeps hk); have m_HC := Aside0.mk (Kd.R_below HC.out hk); have m_HB := Aside0.mk (below_step HB.out hk); clear HR HWA HD HC HB hk; have HR := m_HR; have HWA := m_HWA; have HD := m_HD; have HC := m_HC; have HB := m_HB; clear m_HR m_HWA m_HD m_HC m_HB)
            | (go_at_call 25; refine (intsSame A5 A6 c5 c6 _ _ (Nat.le_trans (lastV_le wd L) (Nat.le_trans HLL.out HKK.out)) HVn.out.2 HVn.out.1 HV6.out.2 HV6.out.1).mono ?_; rintro e w7 ⟨rfl, hd⟩; have hk := drawn_below hd; clear hd HVn HV6; have m_HR := Aside0.mk (HR.out.keeps hk); have m_HWA := Aside0.mk (HWA.out.keeps hk); have m_HD := Aside0.mk (HD.out.keeps hk); have m_HC := Aside0.mk (Kd.R_below HC.out hk); have m_HB := Aside0.mk (below_step HB.out hk); clear HR HWA HD HC HB hk; have HR := m_HR; have HWA := m_HWA; have HD := m_HD; have HC := m_HC; have HB := m_HB; clear m_HR m_HWA m_HD m_HC m_HB)
            | (go_at_call 51; refine (moved_ok B wd bd at_ n ring _ HR.out HW.out HP.out.ba HP.out.bn).mono ?_; rintro e w8 ⟨he, hk⟩; rw [HP.out.moved bd] at he; subst he; have m_HR := Aside0.mk (HR.out.keeps hk); have m_HWA := Aside0.mk (HWA.out.keeps hk); have m_HD := Aside0.mk (HD.out.keeps hk); have m_HC := Aside0.mk (Kd.R_below HC.out hk); have m_HB := Aside0.mk (below_step HB.out hk); clear HR HWA HD HC HB hk; have HR := m_HR; have HWA := m_HWA; have HD := m_HD; have HC := m_HC; have HB := m_HB; clear m_HR m_HWA m_HD m_HC m_HB)
            | (go_at_call 52; refine (rmoved_ok D wd bd _ L _ HD.out HW.out (Nat.le_trans HLL.out HKK.out)).mono ?_; rintro e w9 ⟨rfl, hk⟩; have m_HR := Aside0.mk (HR.out.keeps hk); have m_HWA := Aside0.mk (HWA.out.keeps hk); have m_HD := Aside0.mk (HD.out.keeps hk); have m_HC := Aside0.mk (Kd.R_below HC.out hk); have m_HB := Aside0.mk (below_step HB.out hk); clear HR HWA HD HC HB hk; have HR := m_HR; have HWA := m_HWA; have HD := m_HD; have HC := m_HC; have HB := m_HB; clear m_HR m_HWA m_HD m_HC m_HB)
            | (go_at_call 53; refine (run_ok A B last 0 _ HWA.out).mono ?_; rintro e w10 ⟨rfl, rfl⟩))
          go_roundw
          case rel => exact ⟨k + 1, ring, at_, n, L, last, 0, [], none, 0, by simp, rfl, by omega, ⟨HLL.out⟩, ⟨HCL.out⟩, HR, HWA, HD, HC, HB, HP⟩
          case measure => simp [intOf]; omega
        | false =>
          have HR := HR2
          have HWA := HW2
          have HD := HD2
          have HC := HC2
          have HB := HB2
          clear HR2 HW2 HD2 HC2 HB2
          obtain ⟨r, b, last', run', cs', hP', hL', hv1, hv2⟩ := come_any A B D wd bd at_ n v ring L last run cs Ac cc HP.out (Nat.le_trans HLL.out (Nat.le_trans hk HLN.out)) (Nat.le_trans HCL.out (Nat.le_trans hk HLN.out)) HAB.out HDB.out HDA.out
          have HPn := Aside0.mk hP'
          have HLn := Aside0.mk (show L.length ≤ k + 1 by have := HLL.out; omega)
          have HCn := Aside0.mk (show cs'.length ≤ k + 1 by have := HCL.out; omega)
          have HV1 := Aside0.mk hv1
          have HV2 := Aside0.mk hv2
          have hmin : min (cs'.length : Int) wd = run' := (min_mn _ _).trans hP'.hrun.symm
          clear hP' hL' hv1 hv2 HP HLL HCL
          have HP := HPn
          have HLL := HLn
          have HCL := HCn
          clear HPn HLn HCn
          go_wp2_with (first
            | (go_at_call 47; refine (HV1.out _ HR.out HWA.out).mono ?_; rintro e w5 ⟨rfl, hA', hO⟩; have m_HR := Aside0.mk (HR.out.only hO (Ne.symm HAB.out)); have m_HWA := Aside0.mk hA'; have m_HD := Aside0.mk (HD.out.only hO HDA.out (fun j hj => hj.1)); have m_HC := Aside0.mk (Kd.R_step HC.out (fun j hj hl => hO.block j hl hj.1)); have m_HB := Aside0.mk (HB.out.trans (hO.below HLA.out HB.out.size)); have x1 : w5.cell? ⟨wr.heap.size, 1, none⟩ = some (.int .i64 v) := (blk_cell ((hO.block wr.heap.size (Array.getElem?_eq_some_iff.1 HX2.out).1 (Nat.ne_of_gt HLT.out.1)).trans HX2.out) 1).trans rfl; clear HR HWA HD HC HB hA' hO; have HR := m_HR; have HWA := m_HWA; have HD := m_HD; have HC := m_HC; have HB := m_HB; clear m_HR m_HWA m_HD m_HC m_HB)
            | (go_at_call 48; refine (HV2.out _ HWA.out.lt HR.out.lt HD.out HC.out).mono ?_; rintro e w6 ⟨A', c', rfl, hC', hk⟩; have m_HC := Aside0.mk hC'; clear HC hC'; have m_HR := Aside0.mk (HR.out.keeps hk); have m_HWA := Aside0.mk (HWA.out.keeps hk); have m_HD := Aside0.mk (HD.out.keeps hk); have m_HB := Aside0.mk (below_step HB.out hk); clear HR HWA HD HB hk; have HR := m_HR; have HWA := m_HWA; have HD := m_HD; have HB := m_HB; clear m_HR m_HWA m_HD m_HB; have HC := m_HC; clear m_HC)
            | (go_at_call 49; refine (votes_ok B wd bd at_ n ring HW.out HP.out.ba HP.out.bn _ HR.out).mono ?_; rintro e w5 ⟨v49, rfl, hr, hk⟩; rw [HP.out.votes] at hr; obtain ⟨A5, c5, rfl⟩ := Kd.R_slice hr; have HV := Aside0.mk (Kd.R_reads' hr).2; clear hr; have m_HR := Aside0.mk (HR.out.keeps hk); have m_HWA := Aside0.mk (HWA.out.keeps hk); have m_HD := Aside0.mk (HD.out.keeps hk); have m_HC := Aside0.mk (Kd.R_below HC.out hk); have m_HB := Aside0.mk (below_step HB.out hk); clear HR HWA HD HC HB hk; have HR := m_HR; have HWA := m_HWA; have HD := m_HD; have HC := m_HC; have HB := m_HB; clear m_HR m_HWA m_HD m_HC m_HB)
            | (go_at_call 50; refine (rvotes_ok D wd bd _ L _ HD.out HW.out (Nat.le_trans HLL.out HKK.out)).mono ?_; rintro e w6 ⟨A6, c6, rfl, hc6, hr6, hk⟩; have HV6 := Aside0.mk (And.intro hc6 hr6); have HVn := Aside0.mk (And.intro HV.out.1 (Kd.C_below HV.out.2 hk)); clear HV hc6 hr6; have m_HR := Aside0.mk (HR.out.keeps hk); have m_HWA := Aside0.mk (HWA.out.keeps hk); have m_HD := Aside0.mk (HD.out.keeps hk); have m_HC := Aside0.mk (Kd.R_below HC.out hk); have m_HB := Aside0.mk (below_step HB.out hk); clear HR HWA HD HC HB hk; have HR := m_HR; have HWA := m_HWA; have HD := m_HD; have HC := m_HC; have HB := m_HB; clear m_HR m_HWA m_HD m_HC m_HB)
            | (go_at_call 25; refine (intsSame A5 A6 c5 c6 _ _ (Nat.le_trans (lastV_le wd L) (Nat.le_trans HLL.out HKK.out)) HVn.out.2 HVn.out.1 HV6.out.2 HV6.out.1).mono ?_; rintro e w7 ⟨rfl, hd⟩; have hk := drawn_below hd; clear hd HVn HV6; have m_HR := Aside0.mk (HR.out.keeps hk); have m_HWA := Aside0.mk (HWA.out.keeps hk); have m_HD := Aside0.mk (HD.out.keeps hk); have m_HC := Aside0.mk (Kd.R_below HC.out hk); have m_HB := Aside0.mk (below_step HB.out hk); clear HR HWA HD HC HB hk; have HR := m_HR; have HWA := m_HWA; have HD := m_HD; have HC := m_HC; have HB := m_HB; clear m_HR m_HWA m_HD m_HC m_HB)
            | (go_at_call 51; refine (moved_ok B wd bd at_ n ring _ HR.out HW.out HP.out.ba HP.out.bn).mono ?_; rintro e w8 ⟨he, hk⟩; rw [HP.out.moved bd] at he; subst he; have m_HR := Aside0.mk (HR.out.keeps hk); have m_HWA := Aside0.mk (HWA.out.keeps hk); have m_HD := Aside0.mk (HD.out.keeps hk); have m_HC := Aside0.mk (Kd.R_below HC.out hk); have m_HB := Aside0.mk (below_step HB.out hk); clear HR HWA HD HC HB hk; have HR := m_HR; have HWA := m_HWA; have HD := m_HD; have HC := m_HC; have HB := m_HB; clear m_HR m_HWA m_HD m_HC m_HB)
            | (go_at_call 52; refine (rmoved_ok D wd bd _ L _ HD.out HW.out (Nat.le_trans HLL.out HKK.out)).mono ?_; rintro e w9 ⟨rfl, hk⟩; have m_HR := Aside0.mk (HR.out.keeps hk); have m_HWA := Aside0.mk (HWA.out.keeps hk); have m_HD := Aside0.mk (HD.out.keeps hk); have m_HC := Aside0.mk (Kd.R_below HC.out hk); have m_HB := Aside0.mk (below_step HB.out hk); clear HR HWA HD HC HB hk; have HR := m_HR; have HWA := m_HWA; have HD := m_HD; have HC := m_HC; have HB := m_HB; clear m_HR m_HWA m_HD m_HC m_HB)
            | (go_at_call 53; refine (run_ok A B last' run' _ HWA.out).mono ?_; rintro e w10 ⟨rfl, rfl⟩))
          go_roundw
          case rel => exact ⟨k + 1, ring, at_, n, L, last', run', cs', A', c', by simp, rfl, by omega, ⟨HLL.out⟩, ⟨HCL.out⟩, HR, HWA, HD, HC, HB, HP⟩
          case measure => simp [intOf]; omega
      · obtain ⟨r, ring', at', n', L', hP', hL', hv1, hv2⟩ := vote_any A B D wd bd at_ n v ring L last run cs HP.out (Nat.le_trans HLL.out (Nat.le_trans hk HLN.out)) HAB.out HDB.out HDA.out
        have HPn := Aside0.mk hP'
        have HLn := Aside0.mk (show L'.length ≤ k + 1 by have := HLL.out; omega)
        have HCn := Aside0.mk (show cs.length ≤ k + 1 by have := HCL.out; omega)
        have HV1 := Aside0.mk hv1
        have HV2 := Aside0.mk hv2
        have hmin : min (cs.length : Int) wd = run := (min_mn _ _).trans hP'.hrun.symm
        clear hP' hL' hv1 hv2
        go_wp2
        refine (wpIn_wide (n := 0)).1 ?_
        have XD : Wat (World.drew (wr.alloc (.cells #[.bool miss, .int .i64 v] 69))) A B last run ∧ Kd.R (Kd.int .i64) 3 (World.drew (wr.alloc (.cells #[.bool miss, .int .i64 v] 69))) 0 (okB3 A B D) (.slice Ac cs.length cc) cs ∧ Below w.heap.size w (World.drew (wr.alloc (.cells #[.bool miss, .int .i64 v] 69))) ∧ (World.drew (wr.alloc (.cells #[.bool miss, .int .i64 v] 69))).heap[wr.heap.size]? = some (.cells #[.bool miss, .int .i64 v] 69 (0, 0)) :=
          ⟨HW2.out, Kd.R_drew HC2.out, below_drew HB2.out, HX2.out⟩
        have XR : Room (World.drew (wr.alloc (.cells #[.bool miss, .int .i64 v] 69))) B wd bd ring at_ n := ⟨HR2.out.block, HR2.out.len⟩
        have XF : RefR (World.drew (wr.alloc (.cells #[.bool miss, .int .i64 v] 69))) D wd bd (okB3 A B D) L := let ⟨u, h1, h2⟩ := HD2.out; ⟨u, h1, Kd.R_drew h2⟩
        clear HR2 HW2 HD2 HC2 HB2 HX2 X0 X1 X2 X4
        generalize wr.alloc (.cells #[.bool miss, .int .i64 v] 69) = W1 at XD XR XF ⊢
        generalize wr.heap.size = bx at XD HLT ⊢
        refine wpIn_region_rg 9 (by kernel_rfl) (by kernel_rfl) (fun V => Wat V A B last run ∧ Kd.R (Kd.int .i64) 3 V 0 (okB3 A B D) (.slice Ac cs.length cc) cs ∧ Below w.heap.size w V ∧ V.heap[bx]? = some (.cells #[.bool miss, .int .i64 v] 69 (0, 0))) [3, 7] (PlayJ A B D wd bd ring at_ n ring' at' n' L L') (tellOf [some (.pointer (some ⟨B, 0, none⟩)), some (.pointer (some ⟨bx, 1, none⟩)), some (.int .i64 v), some (.int .i64 r), some (.pointer (some ⟨D, 0, none⟩)), some (.pointer (some ⟨bx, 1, none⟩)), some (.int .i64 v), some (.int .i64 r), some (.bool false)]) (by decide) XD (fun us => ⟨XR, XF⟩) ?_
        simp only [List.take_succ_cons, List.take_zero, List.drop_succ_cons, List.drop_zero]
        (try simp only [Act.put, List.setIfInBounds_toArray, List.set_cons_succ, List.set_cons_zero])
        refine rg_val _ rfl rfl (fun _ _ h k => ⟨h.1.keeps k, Kd.R_below h.2.1 k, below_step h.2.2.1 k, blk_below h.2.2.2 k⟩) PlayJ.keeps (fun Ls us V hV hu hb hJ => opRG_run (fun _ => trivial) (by rfl) ?_) ?_
        · clear hu hb hJ
          go_simp
          exact Keeps.refl _
        (try simp only [Act.put, List.setIfInBounds_toArray, List.set_cons_succ, List.set_cons_zero])
        refine rg_val _ rfl rfl (fun _ _ h k => ⟨h.1.keeps k, Kd.R_below h.2.1 k, below_step h.2.2.1 k, blk_below h.2.2.2 k⟩) PlayJ.keeps (fun Ls us V hV hu hb hJ => opRG_run (fun _ => trivial) (by rfl) ?_) ?_
        · clear hu hb hJ
          go_simp
          exact Keeps.refl _
        (try simp only [Act.put, List.setIfInBounds_toArray, List.set_cons_succ, List.set_cons_zero])
        refine rg_val _ rfl rfl (fun _ _ h k => ⟨h.1.keeps k, Kd.R_below h.2.1 k, below_step h.2.2.1 k, blk_below h.2.2.2 k⟩) PlayJ.keeps (fun Ls us V hV hu hb hJ => opRG_run (fun _ => trivial) (by rfl) ?_) ?_
        · clear hu hb hJ
          have kx : V.cell? ⟨bx, 1, none⟩ = some (.int .i64 v) := (blk_cell hV.2.2.2 1).trans rfl
          go_simp
          exact Keeps.refl _
        (try simp only [Act.put, List.setIfInBounds_toArray, List.set_cons_succ, List.set_cons_zero])
        refine rg_both _ rfl (fun Ls us V hV hu hL hb hJ => opRG_run (fun _ => trivial) (by rfl) ?_) ?_
        · have hRm := PlayJ.room (a := Ls 3) (b := Ls 7) hJ hL
          go_simp
          refine ⟨by first | rfl | (intro h; cases h), callsIn_wide.2 ((HV1.out V hRm).mono ?_)⟩
          rintro e w2 ⟨rfl, hR', hO⟩
          exact ⟨_, rfl, rfl, ⟨hV.1.only hO HAB.out, Kd.R_step hV.2.1 (fun j hj hl => hO.block j hl hj.2.1), hV.2.2.1.trans (hO.below HLB.out hV.2.2.1.size), (hO.block bx (Array.getElem?_eq_some_iff.1 hV.2.2.2).1 (by have := HLT.out; omega)).trans hV.2.2.2⟩, PlayJ.vote (a := Ls 3) (b := Ls 7) hJ hR' hO HDB.out⟩
        (try simp only [Act.put, List.setIfInBounds_toArray, List.set_cons_succ, List.set_cons_zero])
        refine rg_val _ rfl rfl (fun _ _ h k => ⟨h.1.keeps k, Kd.R_below h.2.1 k, below_step h.2.2.1 k, blk_below h.2.2.2 k⟩) PlayJ.keeps (fun Ls us V hV hu hb hJ => opRG_run (fun _ => trivial) (by rfl) ?_) ?_
        · clear hu hb hJ
          go_simp
          exact Keeps.refl _
        (try simp only [Act.put, List.setIfInBounds_toArray, List.set_cons_succ, List.set_cons_zero])
        refine rg_val _ rfl rfl (fun _ _ h k => ⟨h.1.keeps k, Kd.R_below h.2.1 k, below_step h.2.2.1 k, blk_below h.2.2.2 k⟩) PlayJ.keeps (fun Ls us V hV hu hb hJ => opRG_run (fun _ => trivial) (by rfl) ?_) ?_
        · clear hu hb hJ
          go_simp
          exact Keeps.refl _
        (try simp only [Act.put, List.setIfInBounds_toArray, List.set_cons_succ, List.set_cons_zero])
        refine rg_val _ rfl rfl (fun _ _ h k => ⟨h.1.keeps k, Kd.R_below h.2.1 k, below_step h.2.2.1 k, blk_below h.2.2.2 k⟩) PlayJ.keeps (fun Ls us V hV hu hb hJ => opRG_run (fun _ => trivial) (by rfl) ?_) ?_
        · clear hu hb hJ
          have kx : V.cell? ⟨bx, 1, none⟩ = some (.int .i64 v) := (blk_cell hV.2.2.2 1).trans rfl
          go_simp
          exact Keeps.refl _
        (try simp only [Act.put, List.setIfInBounds_toArray, List.set_cons_succ, List.set_cons_zero])
        refine rg_both _ rfl (fun Ls us V hV hu hL hb hJ => opRG_run (fun _ => trivial) (by rfl) ?_) ?_
        · have hRm := PlayJ.ref (a := Ls 3) (b := Ls 7) hJ hL
          have hlB := PlayJ.lt (a := Ls 3) (b := Ls 7) hJ
          go_simp
          refine ⟨by first | rfl | (intro h; cases h), callsIn_wide.2 ((HV2.out V hV.1.lt hlB hRm).mono ?_)⟩
          rintro e w2 ⟨rfl, hR', hO⟩
          exact ⟨_, rfl, rfl, ⟨hV.1.only hO (Ne.symm HDA.out), Kd.R_step hV.2.1 (fun j hj hl => hO.block j hl hj.2.2), hV.2.2.1.trans (hO.below HLD.out hV.2.2.1.size), (hO.block bx (Array.getElem?_eq_some_iff.1 hV.2.2.2).1 (by have := HLT.out; omega)).trans hV.2.2.2⟩, PlayJ.rvote (a := Ls 3) (b := Ls 7) hJ hR' hO HDB.out⟩
        (try simp only [Act.put, List.setIfInBounds_toArray, List.set_cons_succ, List.set_cons_zero])
        refine rg_val _ rfl rfl (fun _ _ h k => ⟨h.1.keeps k, Kd.R_below h.2.1 k, below_step h.2.2.1 k, blk_below h.2.2.2 k⟩) PlayJ.keeps (fun Ls us V hV hu hb hJ => opRG_run (fun _ => trivial) (by rfl) ?_) ?_
        · clear hu hb hJ
          go_simp
          exact Keeps.refl _
        refine rgWalk.nil fun us V hV hu hJ => ?_
        have HR := Aside0.mk (show Room V B wd bd ring' at' n' from hJ.1)
        have HD := Aside0.mk (show RefR V D wd bd (okB3 A B D) L' from hJ.2)
        have HWA := Aside0.mk hV.1
        have HC := Aside0.mk hV.2.1
        have HB := Aside0.mk hV.2.2.1
        clear hu hJ us XD XR XF hV HP HLL HCL HV1 HV2
        have HP := HPn
        have HLL := HLn
        have HCL := HCn
        clear HPn HLn HCn
        gi_wp2
        go_wp2_with (first
          | (go_at_call 49; refine (votes_ok B wd bd at' n' ring' HW.out HP.out.ba HP.out.bn _ HR.out).mono ?_; rintro e w5 ⟨v49, rfl, hr, hk⟩; rw [HP.out.votes] at hr; obtain ⟨A5, c5, rfl⟩ := Kd.R_slice hr; have HV := Aside0.mk (Kd.R_reads' hr).2; clear hr; have m_HR := Aside0.mk (HR.out.keeps hk); have m_HWA := Aside0.mk (HWA.out.keeps hk); have m_HD := Aside0.mk (HD.out.keeps hk); have m_HC := Aside0.mk (Kd.R_below HC.out hk); have m_HB := Aside0.mk (below_step HB.out hk); clear HR HWA HD HC HB hk; have HR := m_HR; have HWA := m_HWA; have HD := m_HD; have HC := m_HC; have HB := m_HB; clear m_HR m_HWA m_HD m_HC m_HB)
          | (go_at_call 50; refine (rvotes_ok D wd bd _ L' _ HD.out HW.out (Nat.le_trans HLL.out HKK.out)).mono ?_; rintro e w6 ⟨A6, c6, rfl, hc6, hr6, hk⟩; have HV6 := Aside0.mk (And.intro hc6 hr6); have HVn := Aside0.mk (And.intro HV.out.1 (Kd.C_below HV.out.2 hk)); clear HV hc6 hr6; have m_HR := Aside0.mk (HR.out.keeps hk); have m_HWA := Aside0.mk (HWA.out.keeps hk); have m_HD := Aside0.mk (HD.out.keeps hk); have m_HC := Aside0.mk (Kd.R_below HC.out hk); have m_HB := Aside0.mk (below_step HB.out hk); clear HR HWA HD HC HB hk; have HR := m_HR; have HWA := m_HWA; have HD := m_HD; have HC := m_HC; have HB := m_HB; clear m_HR m_HWA m_HD m_HC m_HB)
          | (go_at_call 25; refine (intsSame A5 A6 c5 c6 _ _ (Nat.le_trans (lastV_le wd L') (Nat.le_trans HLL.out HKK.out)) HVn.out.2 HVn.out.1 HV6.out.2 HV6.out.1).mono ?_; rintro e w7 ⟨rfl, hd⟩; have hk := drawn_below hd; clear hd HVn HV6; have m_HR := Aside0.mk (HR.out.keeps hk); have m_HWA := Aside0.mk (HWA.out.keeps hk); have m_HD := Aside0.mk (HD.out.keeps hk); have m_HC := Aside0.mk (Kd.R_below HC.out hk); have m_HB := Aside0.mk (below_step HB.out hk); clear HR HWA HD HC HB hk; have HR := m_HR; have HWA := m_HWA; have HD := m_HD; have HC := m_HC; have HB := m_HB; clear m_HR m_HWA m_HD m_HC m_HB)
          | (go_at_call 51; refine (moved_ok B wd bd at' n' ring' _ HR.out HW.out HP.out.ba HP.out.bn).mono ?_; rintro e w8 ⟨he, hk⟩; rw [HP.out.moved bd] at he; subst he; have m_HR := Aside0.mk (HR.out.keeps hk); have m_HWA := Aside0.mk (HWA.out.keeps hk); have m_HD := Aside0.mk (HD.out.keeps hk); have m_HC := Aside0.mk (Kd.R_below HC.out hk); have m_HB := Aside0.mk (below_step HB.out hk); clear HR HWA HD HC HB hk; have HR := m_HR; have HWA := m_HWA; have HD := m_HD; have HC := m_HC; have HB := m_HB; clear m_HR m_HWA m_HD m_HC m_HB)
          | (go_at_call 52; refine (rmoved_ok D wd bd _ L' _ HD.out HW.out (Nat.le_trans HLL.out HKK.out)).mono ?_; rintro e w9 ⟨rfl, hk⟩; have m_HR := Aside0.mk (HR.out.keeps hk); have m_HWA := Aside0.mk (HWA.out.keeps hk); have m_HD := Aside0.mk (HD.out.keeps hk); have m_HC := Aside0.mk (Kd.R_below HC.out hk); have m_HB := Aside0.mk (below_step HB.out hk); clear HR HWA HD HC HB hk; have HR := m_HR; have HWA := m_HWA; have HD := m_HD; have HC := m_HC; have HB := m_HB; clear m_HR m_HWA m_HD m_HC m_HB)
          | (go_at_call 53; refine (run_ok A B last run _ HWA.out).mono ?_; rintro e w10 ⟨rfl, rfl⟩))
        go_roundw
        case rel => exact ⟨k + 1, ring', at', n', L', last, run, cs, Ac, cc, by simp, rfl, by omega, ⟨HLL.out⟩, ⟨HCL.out⟩, HR, HWA, HD, HC, HB, HP⟩
        case measure => simp [intOf]; omega
    · obtain rfl : k = l.length := by omega
      have hk1 : decide (((l.length : Nat) : Int) < (l.length : Int)) = false := decide_eq_false (by omega)
      have HB := HB1
      go_wp2_with (first
        | (go_at_call 46; refine (miss_nil _).mono ?_; rintro e w5 ⟨rfl, rfl⟩)
        | (go_at_call 47; refine (come_nil 0 _).mono ?_; rintro e w5 ⟨rfl, rfl⟩)
        | (go_at_call 39; refine (alive_ok _).mono ?_; rintro e w5 ⟨rfl, hk⟩; have m_HB := Aside0.mk (below_step HB.out hk); clear HB hk; have HB := m_HB; clear m_HB)
        | (go_at_call 44; refine (vote_nil 0 _).mono ?_; rintro e w5 ⟨rfl, rfl⟩)
        | (go_at_call 49; refine (votes_nil _).mono ?_; rintro e w5 ⟨rfl, hk⟩; have m_HB := Aside0.mk (below_step HB.out hk); clear HB hk; have HB := m_HB; clear m_HB)
        | (go_at_call 51; refine (moved_nil _).mono ?_; rintro e w5 ⟨rfl, hk⟩; have m_HB := Aside0.mk (below_step HB.out hk); clear HB hk; have HB := m_HB; clear m_HB)
        | (go_at_call 42; refine (watch_nil _).mono ?_; rintro e w5 ⟨rfl, rfl⟩)
        | (go_at_call 53; refine (run_nil _).mono ?_; rintro e w5 ⟨rfl, rfl⟩))
      go_returns
      exact ⟨rfl, HB.out⟩

end Go.Proofs.Ytdhmefdnpiidbaa.Stu

namespace Go.Proofs.Ytdhmefdnpiidbaa.Stu
open Go.RowKit
theorem plays_ok (wd bd : Int) (A0 : Option Addr) (c0 : Nat) (l : List (Int × Bool × Int)) (w : World) (hA : ActsC w A0 l) (hk : ∀ x ∈ l, 0 ≤ x.1 ∧ x.1 ≤ 255) :
    Calls Try.prog 10 #[.int .i64 wd, .int .i64 bd, .slice A0 l.length c0] w fun e w' => e = .returned (.bool true) ∧ Below w.heap.size w w' := by
  by_cases hl : 200 < l.length
  · exact plays_long wd bd A0 c0 l w hl
  · cases hm : newB wd bd with
    | false => exact plays_no wd bd A0 c0 l w hl hm
    | true => exact plays_main wd bd A0 c0 l w hl hm hA hk
end Go.Proofs.Ytdhmefdnpiidbaa.Stu
