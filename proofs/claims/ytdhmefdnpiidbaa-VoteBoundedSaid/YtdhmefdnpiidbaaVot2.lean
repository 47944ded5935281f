/- vote.Vote: its contract, whatever the rule, the values and the weights. -/
import Derived.Test.YtdhmefdnpiidbaaVot1
namespace Go.Proofs.Ytdhmefdnpiidbaa.Vot
open Go.RowKit Go.Shelf Go.Proofs.YtdhmefdnpiidbaaW.PrintWords Go.Proofs.YtdhmefdnpiidbaaW.PrintMore Go.Proofs.YtdhmefdnpiidbaaW.PrintLast
open Go.Proofs.Ytdhmefdnpiidbaa.Base Go.Proofs.Ytdhmefdnpiidbaa.Ord
set_option linter.unusedVariables false

set_option maxRecDepth 100000 in
set_option maxHeartbeats 4000000 in
theorem vote_no (Lo Hi Clip : Int) (A1 A2 : Option Addr) (c1 c2 : Nat) (zs ws : List Int) (w : World) (hz : Kd.C (Kd.int .i64) w A1 zs.length zs) (hcz : zs.length ≤ c1)
    (m : Int) (rB ok bl : Bool) (hr : vote_Right.f Lo Hi Clip = some rB) (hm : order_Mid.f zs = some (m, ok)) (hl : ((ws.length : Int) != (zs.length : Int)) = bl) (hn : (rB && ok && !bl) = false) :
    Calls Try.prog 19 #[.agg #[.int .i64 Lo, .int .i64 Hi, .int .i64 Clip], .slice A1 zs.length c1, .slice A2 ws.length c2] w fun e w' => e = .returned (.tuple #[.int .i64 0, .bool false]) ∧ Below w.heap.size w w' := by
  have hu35 := Try.underlying35
  have HZ := Aside0.mk hz
  have HR := Aside0.mk hr
  have HM := Aside0.mk hm
  clear hz hr hm
  cases rB <;> cases ok <;> cases bl <;> (try (exfalso; revert hn; decide)) <;> clear hn
  all_goals
    go_enter Try.func19, Try.ntmps19
    go_wp2_with (first
      | (go_at_call 20; refine (order_Mid.calls A1 c1 zs _ _ _ (Kd.C_alloc (Kd.C_alloc (Kd.C_alloc HZ.out _) _) _) hcz HM.out).mono ?_; rintro e w1 ⟨rfl, hb⟩; have R1 := Aside0.mk (blk_below (g := w.heap.size) (o := (.cells #[.int .i64 Lo, .int .i64 Hi, .int .i64 Clip] 35 (0, 0))) (blk_alloc (blk_alloc (blk_new _ _) _) _) hb); have N1 := Aside0.mk (blk_below (g := w.heap.size + 1) (o := (.cells #[.int .i64 0] 3 (0, 0))) (blk_alloc (size_new _ _ _) _) hb); have B1 := Aside0.mk (blk_below (g := w.heap.size + 1 + 1) (o := (.cells #[.bool false] 4 (0, 0))) (size_new2 _ _ _ _) hb); have HB1 := Aside0.mk (below_step (w := w) (((Below.refl _ w).alloc (Nat.le_refl _) _).alloc (by simp) _ |>.alloc (by simp; omega) _) hb); clear hb; have r1_0 : World.cell? _ ⟨w.heap.size, 0, none⟩ = some (.int .i64 Lo) := (blk_cell R1.out 0).trans rfl; have r1_1 : World.cell? _ ⟨w.heap.size, 1, none⟩ = some (.int .i64 Hi) := (blk_cell R1.out 1).trans rfl; have r1_2 : World.cell? _ ⟨w.heap.size, 2, none⟩ = some (.int .i64 Clip) := (blk_cell R1.out 2).trans rfl; have lr1 := blk_lt R1.out)
      | (go_at_call 22; refine (vote_Right.calls _ _ _ _ _ HR.out).mono ?_; rintro e w2 ⟨rfl, hb⟩; have N2 := Aside0.mk (blk_below (g := w.heap.size + 1) (o := (.cells #[.int .i64 0] 3 (0, 0))) (blk_alloc N1.out _) hb); have B2 := Aside0.mk (blk_below (g := w.heap.size + 1 + 1) (o := (.cells #[.bool false] 4 (0, 0))) (blk_alloc B1.out _) hb); have HB2 := Aside0.mk (below_step (w := w) (HB1.out.alloc HB1.out.size _) hb); clear hb; have n2_0 : World.cell? _ ⟨w.heap.size + 1, 0, none⟩ = some (.int .i64 0) := (blk_cell N2.out 0).trans rfl; have fn2_0 : World.frozen? _ ⟨w.heap.size + 1, 0, none⟩ = false := blk_frozen N2.out 0; have b2_0 : World.cell? _ ⟨w.heap.size + 1 + 1, 0, none⟩ = some (.bool false) := (blk_cell B2.out 0).trans rfl; have fb2_0 : World.frozen? _ ⟨w.heap.size + 1 + 1, 0, none⟩ = false := blk_frozen B2.out 0))
    have c2' : Cells ((w2.setCell ⟨w.heap.size + 1, 0, none⟩ (.int .i64 0)).setCell ⟨w.heap.size + 1 + 1, 0, none⟩ (.bool false)) (w.heap.size + 1) 3 #[.int .i64 0] := Cells.other (blk_put N2.out 0 _ rfl) (by omega) _
    have c3' : Cells ((w2.setCell ⟨w.heap.size + 1, 0, none⟩ (.int .i64 0)).setCell ⟨w.heap.size + 1 + 1, 0, none⟩ (.bool false)) (w.heap.size + 1 + 1) 4 #[.bool false] := blk_put (Cells.other B2.out (by omega) _) 0 _ rfl
    have b' := (HB2.out.setCell (p := ⟨w.heap.size + 1, 0, none⟩) (by show _ ≤ w.heap.size + 1; omega) (.int .i64 0)).setCell (p := ⟨w.heap.size + 1 + 1, 0, none⟩) (by show _ ≤ w.heap.size + 1 + 1; omega) (.bool false)
    generalize (w2.setCell ⟨w.heap.size + 1, 0, none⟩ (.int .i64 0)).setCell ⟨w.heap.size + 1 + 1, 0, none⟩ (.bool false) = V at c2' c3' b' ⊢
    have e1 : V.cell? ⟨w.heap.size + 1, 0, none⟩ = some (.int .i64 0) := (blk_cell c2' 0).trans rfl
    have e2 : V.cell? ⟨w.heap.size + 1 + 1, 0, none⟩ = some (.bool false) := (blk_cell c3' 0).trans rfl
    refine bodyPost_ret (v := .tuple #[.int .i64 0, .bool false]) (by simp [results, Try.results19, go_sem, e1, e2]; try rfl) rfl ⟨rfl, b'⟩

/-! ### What the library's own numbers are -/

theorem small3 (a b c : Int) (ha : -1099511627776 ≤ a ∧ a ≤ 1099511627776) (hb : -1099511627776 ≤ b ∧ b ≤ 1099511627776) (hc : -1099511627776 ≤ c ∧ c ≤ 1099511627776) : fix_small.f 4 [a, b, c] = some true := by
  have w1 : wrap64 (0 + 1) = 1 := by unfold wrap64; omega
  have w2 : wrap64 (1 + 1) = 2 := by unfold wrap64; omega
  have w3 : wrap64 (2 + 1) = 3 := by unfold wrap64; omega
  unfold fix_small.f
  simp only [fix_small.l0, List.length_cons, List.length_nil, w1, w2, w3]
  have r0 : rd [a, b, c] 0 = a := rfl
  have r1 : rd [a, b, c] 1 = b := rfl
  have r2 : rd [a, b, c] 2 = c := rfl
  simp only [r0, r1, r2]
  rw [if_pos (by decide), if_pos (by decide), if_pos (by decide), if_neg (by omega), if_neg (by omega), if_pos (by decide), if_pos (by decide), if_pos (by decide), if_neg (by omega), if_neg (by omega), if_pos (by decide), if_pos (by decide), if_pos (by decide), if_neg (by omega), if_neg (by omega), if_neg (by decide)]
theorem small2 (a b : Int) (ha : -1099511627776 ≤ a ∧ a ≤ 1099511627776) (hb : -1099511627776 ≤ b ∧ b ≤ 1099511627776) : fix_small.f 3 [a, b] = some true := by
  have w1 : wrap64 (0 + 1) = 1 := by unfold wrap64; omega
  have w2 : wrap64 (1 + 1) = 2 := by unfold wrap64; omega
  unfold fix_small.f
  simp only [fix_small.l0, List.length_cons, List.length_nil, w1, w2]
  have r0 : rd [a, b] 0 = a := rfl
  have r1 : rd [a, b] 1 = b := rfl
  simp only [r0, r1]
  rw [if_pos (by decide), if_pos (by decide), if_pos (by decide), if_neg (by omega), if_neg (by omega), if_pos (by decide), if_pos (by decide), if_pos (by decide), if_neg (by omega), if_neg (by omega), if_neg (by decide)]

def Small (a : Int) : Prop := -1099511627776 ≤ a ∧ a ≤ 1099511627776

def clampI (n lo hi : Int) : Int := mx lo (mn n hi)
theorem smallB_iff (a : Int) : smallB a = true ↔ Small a := by simp [smallB, Small]
theorem clampF_small {n lo hi : Int} (h1 : Small n) (h2 : Small lo) (h3 : Small hi) : clampF n lo hi = clampI n lo hi := by
  unfold clampF clampI
  rw [if_pos (by simp [(smallB_iff n).2 h1, (smallB_iff lo).2 h2, (smallB_iff hi).2 h3])]
theorem small_no (l : List Int) (hl : l.length = 3) (h : ¬ ∀ x ∈ l, Small x) : fix_small.f 4 l = some false := by
  obtain ⟨a, b, c, rfl⟩ : ∃ a b c, l = [a, b, c] := by
    match l, hl with
    | [a, b, c], _ => exact ⟨a, b, c, rfl⟩
  have w1 : wrap64 (0 + 1) = 1 := by unfold wrap64; omega
  have w2 : wrap64 (1 + 1) = 2 := by unfold wrap64; omega
  have w3 : wrap64 (2 + 1) = 3 := by unfold wrap64; omega
  unfold fix_small.f
  simp only [fix_small.l0, List.length_cons, List.length_nil, w1, w2, w3]
  have r0 : rd [a, b, c] 0 = a := rfl
  have r1 : rd [a, b, c] 1 = b := rfl
  have r2 : rd [a, b, c] 2 = c := rfl
  simp only [r0, r1, r2]
  rw [if_pos (by decide), if_pos (by decide), if_pos (by decide)]
  simp only [List.mem_cons, List.not_mem_nil, or_false, forall_eq_or_imp, forall_eq, Small] at h
  by_cases a1 : a < -1099511627776
  · rw [if_pos a1]
  rw [if_neg a1]
  by_cases a2 : a > 1099511627776
  · rw [if_pos a2]
  rw [if_neg a2, if_pos (by decide), if_pos (by decide), if_pos (by decide)]
  by_cases b1 : b < -1099511627776
  · rw [if_pos b1]
  rw [if_neg b1]
  by_cases b2 : b > 1099511627776
  · rw [if_pos b2]
  rw [if_neg b2, if_pos (by decide), if_pos (by decide), if_pos (by decide)]
  by_cases c1 : c < -1099511627776
  · rw [if_pos c1]
  rw [if_neg c1, if_pos (by omega)]
theorem clamp_any (n lo hi : Int) : fix_Clamp.f 4 n lo hi = some (clampF n lo hi) := by
  unfold fix_Clamp.f clampF
  by_cases h : Small n ∧ Small lo ∧ Small hi
  · rw [small3 n lo hi h.1 h.2.1 h.2.2, if_pos (by simp [(smallB_iff n).2 h.1, (smallB_iff lo).2 h.2.1, (smallB_iff hi).2 h.2.2])]
    rfl
  · rw [small_no _ rfl (by simpa using h), if_neg (by simpa [smallB_iff] using h)]
    rfl
theorem clamp_small (n lo hi : Int) (h1 : Small n) (h2 : Small lo) (h3 : Small hi) : fix_Clamp.f 4 n lo hi = some (clampI n lo hi) := by
  unfold fix_Clamp.f
  rw [small3 n lo hi h1 h2 h3]
  rfl

theorem wrap_fits (a : Int) (h : -9223372036854775808 ≤ a ∧ a ≤ 9223372036854775807) : wrap64 a = a := by unfold wrap64; omega

theorem floor_small (a b : Int) (h1 : Small a) (h2 : Small b) (hb : 1 ≤ b) : fix_Floor.f 3 a b = some (a / b) := by
  unfold fix_Floor.f
  rw [small2 a b h1 h2]
  simp only [Option.bind_some, if_true, fix_Floor.j0]
  rw [if_neg (by simp; omega), if_neg (by omega)]
  have hq := Int.tdiv_eq_ediv (a := a) (b := b)
  have hr := Int.tmod_eq_emod (a := a) (b := b)
  have h0 : 0 ≤ a % b := Int.emod_nonneg a (by omega)
  have hlt : a % b < b := Int.emod_lt_of_pos a (by omega)
  have hs : b.sign = 1 := Int.sign_eq_one_of_pos (by omega)
  have hbd : -1099511627776 ≤ a / b ∧ a / b ≤ 1099511627776 := by
    unfold Small at h1
    have e := Int.emod_add_mul_ediv a b
    constructor
    · refine Int.le_ediv_of_mul_le (by omega) ?_
      have hx : -1099511627776 * b ≤ -1099511627776 * 1 := Int.mul_le_mul_of_nonpos_left (by omega) (by omega)
      omega
    · refine Int.le_trans (Int.ediv_le_ediv (by omega) h1.2) (Int.ediv_le_self _ (by omega))
  by_cases hd : 0 ≤ a ∨ b ∣ a
  · rw [if_pos hd] at hq hr
    rw [if_neg (by omega), hq, Int.add_zero, wrap_fits _ (by omega)]
  · rw [if_neg hd] at hq hr
    rw [if_pos (by omega), hq, hs, wrap_fits (a / b + 1) (by omega), wrap_fits _ (by omega)]
    congr 1
    omega

/-! ### The vote, as numbers -/

def rightB (lo hi clip : Int) : Bool := decide (-2147483648 ≤ lo) && decide (lo ≤ 2147483647) && decide (-2147483648 ≤ hi) && decide (hi ≤ 2147483647) && decide (lo ≤ hi) && decide (0 ≤ clip) && decide (clip ≤ 2147483647)
theorem right_f (lo hi clip : Int) : vote_Right.f lo hi clip = some (rightB lo hi clip) := by
  unfold vote_Right.f vote_right.f rightB
  by_cases h1 : lo ≥ -2147483648 <;> by_cases h2 : lo ≤ 2147483647 <;> by_cases h3 : hi ≥ -2147483648 <;> by_cases h4 : hi ≤ 2147483647 <;> simp [h1, h2, h3, h4]
  by_cases h5 : lo ≤ hi <;> by_cases h6 : 0 ≤ clip <;> simp [h5, h6]
  omega

def sumI (m c : Int) : List (Int × Int) → Int
  | [] => 0
  | x :: l => x.2 * clampI x.1 (m - c) (m + c) + sumI m c l
def totI : List (Int × Int) → Int
  | [] => 0
  | x :: l => x.2 + totI l
def voteB (lo hi clip : Int) (l1 l2 : List Int) : Bool := rightB lo hi clip && midB l1 && decide (l2.length = l1.length) && (l1.zip l2).all goodP
def voteI (lo hi clip : Int) (l1 l2 : List Int) : Int := clampI (sumI (midI (sortI l1)) clip (l1.zip l2) / totI (l1.zip l2)) lo hi

theorem clampI_in (n lo hi : Int) (h : lo ≤ hi) : lo ≤ clampI n lo hi ∧ clampI n lo hi ≤ hi := by unfold clampI mx mn; omega

/-- A weighted value: at most 16 times 2^33. -/
theorem mul_le (a b B : Int) (ha : 1 ≤ a ∧ a ≤ 16) (hb : -B ≤ b ∧ b ≤ B) (hB : 0 ≤ B) : -(16 * B) ≤ a * b ∧ a * b ≤ 16 * B := by
  have h1 : a * b ≤ a * B := Int.mul_le_mul_of_nonneg_left hb.2 (by omega)
  have h2 : a * B ≤ 16 * B := Int.mul_le_mul_of_nonneg_right ha.2 hB
  have h3 : a * (-B) ≤ a * b := Int.mul_le_mul_of_nonneg_left hb.1 (by omega)
  have h4 : -(16 * B) ≤ a * (-B) := by rw [Int.mul_neg]; omega
  omega

theorem good_spec {x : Int × Int} (h : goodP x = true) : (-4294967296 ≤ x.1 ∧ x.1 ≤ 4294967296) ∧ (1 ≤ x.2 ∧ x.2 ≤ 16) := by
  unfold goodP at h
  simp only [Bool.and_eq_true, decide_eq_true_eq] at h
  omega

theorem sums (m c : Int) (hm : -4294967296 ≤ m ∧ m ≤ 4294967296) (hc : 0 ≤ c ∧ c ≤ 2147483647) : ∀ (l : List (Int × Int)) (s t : Int) (k : Nat), l.all goodP = true → l.length + k ≤ 4 → -(k * 137438953472) ≤ s ∧ s ≤ k * 137438953472 → 0 ≤ t ∧ t ≤ k * 16 →
    l.foldl (fun s x => wrap64 (s + wrap64 (x.2 * clampF x.1 (wrap64 (m - c)) (wrap64 (m + c))))) s = s + sumI m c l ∧ l.foldl (fun s x => wrap64 (s + x.2)) t = t + totI l ∧
    -(l.length * 137438953472 : Int) ≤ sumI m c l ∧ sumI m c l ≤ l.length * 137438953472 ∧ (l.length : Int) ≤ totI l ∧ totI l ≤ l.length * 16 := by
  intro l
  induction l with
  | nil => intro s t k _ _ _ _; simp [sumI, totI]
  | cons x l ih =>
    intro s t k hg hk hs ht
    simp only [List.all_cons, Bool.and_eq_true] at hg
    obtain ⟨h1, h2⟩ := good_spec hg.1
    have e1 : wrap64 (m - c) = m - c := wrap_fits _ (by omega)
    have e2 : wrap64 (m + c) = m + c := wrap_fits _ (by omega)
    have hcl := clampI_in x.1 (m - c) (m + c) (by omega)
    have hp := mul_le x.2 (clampI x.1 (m - c) (m + c)) 8589934592 h2 (by omega) (by omega)
    simp only [List.length_cons] at hk ⊢
    have ef : clampF x.1 (m - c) (m + c) = clampI x.1 (m - c) (m + c) := clampF_small (by unfold Small; omega) (by unfold Small; omega) (by unfold Small; omega)
    simp only [List.foldl_cons, sumI, totI, e1, e2, ef]
    rw [wrap_fits (x.2 * _) (by omega), wrap_fits (s + _) (by omega), wrap_fits (t + x.2) (by omega)]
    have := ih (s + x.2 * clampI x.1 (m - c) (m + c)) (t + x.2) (k + 1) hg.2 (by omega) (by push_cast; omega) (by push_cast; omega)
    rw [e1, e2] at this
    obtain ⟨i1, i2, i3, i4, i5, i6⟩ := this
    refine ⟨by rw [i1]; omega, by rw [i2]; omega, ?_, ?_, ?_, ?_⟩ <;> push_cast <;> omega

theorem gx_mem (s : List Int) (i : Nat) (h : i < s.length) : gx s i ∈ s := by
  unfold gx
  simp [List.getElem?_eq_getElem h]
theorem mid_of (l : List Int) (h : midB l = true) : ∃ x y, x ∈ l ∧ y ∈ l ∧ midI (sortI l) = (x + y) / 2 := by
  simp only [midB, Bool.and_eq_true, decide_eq_true_eq] at h
  have hl : (sortI l).length = l.length := (sortI_perm l).length_eq
  refine ⟨_, _, (sortI_perm l).mem_iff.1 (gx_mem (sortI l) (((sortI l).length - 1) / 2) (by omega)), (sortI_perm l).mem_iff.1 (gx_mem (sortI l) ((sortI l).length / 2) (by omega)), rfl⟩
theorem zip_good {l1 l2 : List Int} (hl : l2.length = l1.length) (h : (l1.zip l2).all goodP = true) : ∀ x ∈ l1, -4294967296 ≤ x ∧ x ≤ 4294967296 := by
  intro x hx
  obtain ⟨i, hi, rfl⟩ := List.getElem_of_mem hx
  have : (l1[i], l2[i]) ∈ l1.zip l2 := by
    rw [List.mem_iff_getElem]
    exact ⟨i, by simp; omega, by simp⟩
  exact (good_spec (List.all_eq_true.1 h _ this)).1

theorem ne_cast (a b : Nat) : ((a : Int) != (b : Int)) = decide (a ≠ b) := by
  rw [Bool.eq_iff_iff]
  simp only [bne_iff_ne, ne_eq, decide_eq_true_eq]
  omega

def vote_Vote.f (a0_0 a0_1 a0_2 : Int) (l1 l2 : List Int) : Option (Int × Bool) := some (if voteB a0_0 a0_1 a0_2 l1 l2 = true then (voteI a0_0 a0_1 a0_2 l1 l2, true) else (0, false))

theorem right_spec {lo hi clip : Int} (h : rightB lo hi clip = true) : -2147483648 ≤ lo ∧ lo ≤ 2147483647 ∧ -2147483648 ≤ hi ∧ hi ≤ 2147483647 ∧ lo ≤ hi ∧ 0 ≤ clip ∧ clip ≤ 2147483647 := by
  simp only [rightB, Bool.and_eq_true, decide_eq_true_eq] at h
  omega

/-- What the vote's own sums are, when all is fine. -/
theorem vote_sums {lo hi clip : Int} {l1 l2 : List Int} (h1 : rightB lo hi clip = true) (h2 : midB l1 = true) (h3 : l2.length = l1.length) (h4 : (l1.zip l2).all goodP = true) :
    (-4294967296 ≤ midI (sortI l1) ∧ midI (sortI l1) ≤ 4294967296) ∧ sumV (midI (sortI l1)) clip (l1.zip l2) = sumI (midI (sortI l1)) clip (l1.zip l2) ∧ totV (l1.zip l2) = totI (l1.zip l2) ∧
    Small (sumI (midI (sortI l1)) clip (l1.zip l2)) ∧ 1 ≤ totI (l1.zip l2) ∧ totI (l1.zip l2) ≤ 64 := by
  obtain ⟨x, y, hx, hy, hm⟩ := mid_of l1 h2
  have bx := zip_good h3 h4 x hx
  have by_ := zip_good h3 h4 y hy
  have hmb : -4294967296 ≤ midI (sortI l1) ∧ midI (sortI l1) ≤ 4294967296 := by rw [hm]; omega
  have hr := right_spec h1
  simp only [midB, Bool.and_eq_true, decide_eq_true_eq] at h2
  have hlen : (l1.zip l2).length = l1.length := by simp [h3]
  obtain ⟨i1, i2, i3, i4, i5, i6⟩ := sums (midI (sortI l1)) clip hmb (by omega) (l1.zip l2) 0 0 0 h4 (by omega) (by simp) (by simp)
  refine ⟨hmb, by unfold sumV; rw [i1]; omega, by unfold totV; rw [i2]; omega, by unfold Small; omega, by omega, by omega⟩

theorem vote_Vote.calls (a0_0 a0_1 a0_2 : Int) (A1 : Option Addr) (c1 : Nat) (l1 : List Int) (A2 : Option Addr) (c2 : Nat) (l2 : List Int) (r1 : Int) (r2 : Bool) (w : World) (hr1 : Kd.C (Kd.int .i64) w A1 l1.length l1) (hc1 : l1.length ≤ c1) (hr2 : Kd.C (Kd.int .i64) w A2 l2.length l2) (hc2 : l2.length ≤ c2)
    (h : vote_Vote.f a0_0 a0_1 a0_2 l1 l2 = some (r1, r2)) :
    Calls Try.prog 19 #[.agg #[.int .i64 a0_0, .int .i64 a0_1, .int .i64 a0_2], .slice A1 l1.length c1, .slice A2 l2.length c2] w fun e w' => e = .returned (.tuple #[.int .i64 r1, .bool r2]) ∧ Below w.heap.size w w' := by
  have h' := Option.some.inj h
  by_cases hb : (rightB a0_0 a0_1 a0_2 && midB l1 && decide (l2.length = l1.length)) = true
  · simp only [Bool.and_eq_true, decide_eq_true_eq] at hb
    obtain ⟨⟨h1, h2⟩, h3⟩ := hb
    have hv : voteB a0_0 a0_1 a0_2 l1 l2 = (l1.zip l2).all goodP := by simp [voteB, h1, h2, h3]
    rw [hv] at h'
    have hr := right_spec h1
    refine (vote_walk a0_0 a0_1 a0_2 A1 A2 c1 c2 l1 l2 w hr1 hc1 hr2 hc2 (by rw [right_f, h1]) h2 h3 3 4 (sumI (midI (sortI l1)) a0_2 (l1.zip l2) / totI (l1.zip l2)) (voteI a0_0 a0_1 a0_2 l1 l2) (fun hg => ?_) (fun hg => ?_) (fun x _ => ⟨4, clamp_any _ _ _⟩)).mono ?_
    · obtain ⟨_, e1, e2, e3, e4, e5⟩ := vote_sums h1 h2 h3 hg
      rw [e1, e2, floor_small _ _ e3 (by unfold Small; omega) e4]
    · obtain ⟨_, e1, e2, e3, e4, e5⟩ := vote_sums h1 h2 h3 hg
      have hq : Small (sumI (midI (sortI l1)) a0_2 (l1.zip l2) / totI (l1.zip l2)) := by
        unfold Small at e3 ⊢
        constructor
        · refine Int.le_ediv_of_mul_le (by omega) ?_
          have hx : -1099511627776 * totI (l1.zip l2) ≤ -1099511627776 * 1 := Int.mul_le_mul_of_nonpos_left (by omega) (by omega)
          omega
        · exact Int.le_trans (Int.ediv_le_ediv (by omega) e3.2) (Int.ediv_le_self _ (by omega))
      rw [clamp_small _ _ _ hq (by unfold Small; omega) (by unfold Small; omega)]
      rfl
    · rintro e w' ⟨he, hB⟩
      refine ⟨?_, hB⟩
      unfold VoteEnd at he
      rw [he]
      by_cases hg : (l1.zip l2).all goodP = true
      · rw [if_pos hg] at h' ⊢
        obtain ⟨rfl, rfl⟩ := Prod.mk.inj h'
        rw [hg]
      · rw [if_neg hg] at h' ⊢
        obtain ⟨rfl, rfl⟩ := Prod.mk.inj h'
        rw [show (l1.zip l2).all goodP = false by simpa using hg]
  · have hv : voteB a0_0 a0_1 a0_2 l1 l2 = false := by
      unfold voteB
      simp only [Bool.not_eq_true] at hb
      rw [hb]; rfl
    rw [hv, if_neg (by simp)] at h'
    obtain ⟨rfl, rfl⟩ := Prod.mk.inj h'
    cases hm : midB l1 with
    | true => exact vote_no a0_0 a0_1 a0_2 A1 A2 c1 c2 l1 l2 w hr1 hc1 (midI (sortI l1)) (rightB a0_0 a0_1 a0_2) true (decide (l2.length ≠ l1.length)) (right_f _ _ _) (by simp [order_Mid.f, hm]) (ne_cast _ _) (by simp only [hm] at hb; simpa using hb)
    | false => exact vote_no a0_0 a0_1 a0_2 A1 A2 c1 c2 l1 l2 w hr1 hc1 0 (rightB a0_0 a0_1 a0_2) false (decide (l2.length ≠ l1.length)) (right_f _ _ _) (by simp [order_Mid.f, hm]) (ne_cast _ _) (by simp)
end Go.Proofs.Ytdhmefdnpiidbaa.Vot
