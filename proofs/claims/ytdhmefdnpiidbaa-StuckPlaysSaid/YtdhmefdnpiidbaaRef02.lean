/- What the document's functions of layer 2 answer, as plain functions on lists. -/
import Derived.Test.YtdhmefdnpiidbaaBasex1
import Derived.Test.YtdhmefdnpiidbaaBasex2
import Derived.Test.YtdhmefdnpiidbaaOrd4
namespace Go.Proofs.Ytdhmefdnpiidbaa.Ref
open Go.RowKit Go.Proofs.YtdhmefdnpiidbaaW.PrintWords Go.Proofs.YtdhmefdnpiidbaaW.PrintLast Go.Proofs.YtdhmefdnpiidbaaW.PrintMore
open Go.Proofs.Ytdhmefdnpiidbaa.Base Go.Proofs.Ytdhmefdnpiidbaa.Ord

theorem stop {α : Type} {g : Nat → Option α} {r : α} (h : ∀ k, g (k + 1) = some r) : Ev g r :=
  ⟨1, fun k hk => by obtain ⟨m, rfl⟩ : ∃ m, k = m + 1 := ⟨k - 1, by omega⟩; exact h m⟩
theorem w64 {x : Int} (h0 : -9223372036854775808 ≤ x) (h1 : x ≤ 9223372036854775807) : wrap64 x = x := by unfold wrap64; omega
theorem rd_nat (l : List Int) (i : Nat) : rd l (i : Int) = gx l i := by simp [rd, gx]
theorem drop_cons (l : List Int) (i : Nat) (h : i < l.length) : l.drop i = gx l i :: l.drop (i + 1) := by
  rw [List.drop_eq_getElem_cons h, gx_lt l i h]

theorem ev_ints0 (a b : List Int) (hl : a.length = b.length) (hm : a.length ≤ 140737488351232) (d : Nat) : ∀ i, i ≤ a.length → a.length - i = d →
    Ev (fun k => rudderref02_Ints.l0 k a b (i : Int)) (decide (a.drop i = b.drop i)) := by
  induction d with
  | zero =>
    intro i hi hd
    obtain rfl : i = a.length := by omega
    refine stop fun k => ?_
    rw [rudderref02_Ints.l0, if_neg (by omega)]
    simp [hl]
  | succ d ih =>
    intro i hi hd
    have hlt : i < a.length := by omega
    rw [drop_cons a i hlt, drop_cons b i (by omega)]
    by_cases e : gx a i = gx b i
    · refine Ev.step (f := fun k => rudderref02_Ints.l0 k a b ((i + 1 : Nat) : Int)) (fun k => ?_) ?_
      · rw [rudderref02_Ints.l0, if_pos (by omega), if_pos (by omega), if_pos (by omega), rd_nat, rd_nat, if_pos e, w64 (by omega) (by omega)]
        rfl
      · have := ih (i + 1) (by omega) (by omega)
        simpa [e] using this
    · refine stop fun k => ?_
      rw [rudderref02_Ints.l0, if_pos (by omega), if_pos (by omega), if_pos (by omega), rd_nat, rd_nat, if_neg e]
      simp [e]
theorem ev_ints (a b : List Int) (hm : a.length ≤ 140737488351232) : Ev (fun k => rudderref02_Ints.f k a b) (decide (a = b)) := by
  by_cases hl : a.length = b.length
  · refine Ev.congr (f := fun k => rudderref02_Ints.l0 k a b ((0 : Nat) : Int)) (fun k => ?_) ?_
    · rw [rudderref02_Ints.f, if_pos (by omega)]; rfl
    · simpa using ev_ints0 a b hl hm a.length 0 (by omega) (by omega)
  · refine Ev.congr (f := fun _ => some (decide (a = b))) (fun k => ?_) (Ev.now _)
    rw [rudderref02_Ints.f, if_neg (by omega)]
    simp only [Option.some.injEq]
    exact (decide_eq_false (fun e => hl (by rw [e]))).symm

theorem small_some (x : Int) : rudderref01_Small.f x = some (!bigB x) := by
  unfold rudderref01_Small.f bigB
  by_cases h : x ≥ -1099511627776
  · rw [if_pos h]
    have h1 : decide (x < -1099511627776) = false := decide_eq_false (by omega)
    rw [h1]
    by_cases h2 : x ≤ 1099511627776
    · rw [decide_eq_true h2, decide_eq_false (show ¬ 1099511627776 < x by omega)]; rfl
    · rw [decide_eq_false h2, decide_eq_true (show 1099511627776 < x by omega)]; rfl
  · rw [if_neg h]
    have h1 : decide (x < -1099511627776) = true := decide_eq_true (by omega)
    rw [h1]; rfl
theorem ev_all0 (l : List Int) (hm : l.length ≤ 140737488351232) (d : Nat) : ∀ i, i ≤ l.length → l.length - i = d →
    Ev (fun k => rudderref01_All.l0 k l (i : Int)) (!(l.drop i).any bigB) := by
  induction d with
  | zero =>
    intro i hi hd
    obtain rfl : i = l.length := by omega
    refine stop fun k => ?_
    rw [rudderref01_All.l0, if_neg (by omega)]
    simp
  | succ d ih =>
    intro i hi hd
    have hlt : i < l.length := by omega
    rw [drop_cons l i hlt, List.any_cons]
    by_cases e : bigB (gx l i) = true
    · refine stop fun k => ?_
      rw [rudderref01_All.l0, if_pos (by omega), if_pos (by omega), rd_nat, small_some, e]
      rfl
    · have e' : bigB (gx l i) = false := by simpa using e
      refine Ev.step (f := fun k => rudderref01_All.l0 k l ((i + 1 : Nat) : Int)) (fun k => ?_) ?_
      · rw [rudderref01_All.l0, if_pos (by omega), if_pos (by omega), rd_nat, small_some, e', w64 (by omega) (by omega)]
        rfl
      · have := ih (i + 1) (by omega) (by omega)
        simpa [e'] using this
theorem ev_right (l : List Int) (hm : l.length ≤ 140737488351232) : Ev (fun k => rudderref02_Right.f k l) (okB l) := by
  unfold rudderref02_Right.f rudderref01_All.f
  have h := ev_all0 l hm l.length 0 (by omega) (by omega)
  refine Ev.bind h ?_
  refine Ev.congr (f := fun _ => some (okB l)) (fun k => ?_) (Ev.now _)
  unfold okB
  simp only [List.drop_zero]
  cases l.any bigB
  · simp only [Bool.not_false, if_true, Bool.and_true]
    congr 1
    exact decide_eq_decide.2 (by omega)
  · simp

/-- Ahead of the first that is greater. -/
def insR (x : Int) : List Int → List Int
  | [] => [x]
  | y :: ys => if y > x then x :: y :: ys else y :: insR x ys
theorem insR_perm (x : Int) (l : List Int) : (insR x l).Perm (x :: l) := by
  induction l with
  | nil => exact List.Perm.refl _
  | cons y ys ih =>
    unfold insR
    split
    · exact List.Perm.refl _
    · exact (ih.cons y).trans (List.Perm.swap x y ys)
theorem insR_asc (x : Int) (l : List Int) (h : Asc l) : Asc (insR x l) := by
  induction l with
  | nil => simp [insR, Asc]
  | cons y ys ih =>
    unfold Asc at *
    rw [List.pairwise_cons] at h
    unfold insR
    split
    · rename_i hxy
      rw [List.pairwise_cons, List.pairwise_cons]
      refine ⟨fun z hz => ?_, h⟩
      rcases List.mem_cons.1 hz with rfl | hz
      · omega
      · have := h.1 z hz; omega
    · rename_i hxy
      rw [List.pairwise_cons]
      refine ⟨fun z hz => ?_, ih h.2⟩
      rcases List.mem_cons.1 ((insR_perm x ys).mem_iff.1 hz) with rfl | hz
      · omega
      · exact h.1 z hz
theorem insR_sort (l : List Int) (x : Int) : insR x (sortI l) = sortI (l ++ [x]) :=
  sortI_unique (((insR_perm x _).trans ((sortI_perm l).cons x)).trans (List.perm_append_singleton x l).symm) (insR_asc x _ (sortI_asc l))

/-- The inner loop, done or not. -/
theorem ev_sort1 (l : List Int) (i : Nat) (hi : i < l.length) (hm : l.length ≤ 1000) (r : List Int) (out : List Int) (ho : out.length ≤ 1000) (d : Nat) : ∀ (j : Nat) (next : List Int) (done : Bool), j ≤ out.length → out.length - j = d → next.length ≤ 2 * j →
    Ev (fun k => rudderref02_Sort.l0 k l (if done = true then next ++ out.drop j else next ++ insR (gx l i) (out.drop j)) ((i + 1 : Nat) : Int)) r →
    Ev (fun k => rudderref02_Sort.l1 k l out (i : Int) next done (j : Int)) r := by
  induction d with
  | zero =>
    intro j next done hj hd hn hr
    obtain rfl : j = out.length := by omega
    rw [List.drop_length] at hr
    cases done with
    | true =>
      refine Ev.step (fun k => ?_) hr
      rw [rudderref02_Sort.l1, if_neg (by omega), if_pos rfl, w64 (by omega) (by omega)]
      simp
    | false =>
      refine Ev.step (fun k => ?_) hr
      rw [rudderref02_Sort.l1, if_neg (by omega), if_neg (by simp), if_pos (by omega), if_pos (by omega), if_pos (by omega), w64 (by omega) (by omega), rd_nat]
      simp [insR]
  | succ d ih =>
    intro j next done hj hd hn hr
    have hlt : j < out.length := by omega
    rw [drop_cons out j hlt] at hr
    cases done with
    | true =>
      have h1 := ih (j + 1) (next ++ [gx out j]) true (by omega) (by omega) (by simp; omega) (by simpa using hr)
      refine Ev.step (fun k => ?_) h1
      rw [rudderref02_Sort.l1, if_pos (by omega), if_pos rfl, if_pos (by omega), if_pos (by omega), w64 (by omega) (by omega), rd_nat]
      rfl
    | false =>
      unfold insR at hr
      by_cases hg : gx out j > gx l i
      · have h1 := ih (j + 1) ((next ++ [gx l i]) ++ [gx out j]) true (by omega) (by omega) (by simp; omega) (by simpa [hg] using hr)
        refine Ev.step (fun k => ?_) h1
        rw [rudderref02_Sort.l1, if_pos (by omega), if_neg (by simp), if_pos (by omega), if_pos (by omega), if_pos (by omega), rd_nat, rd_nat, if_pos hg, if_pos (by omega), w64 (by omega) (by omega)]
        simp only [Option.bind_some]
        rw [if_pos (by simp; omega)]
        rfl
      · have h1 := ih (j + 1) (next ++ [gx out j]) false (by omega) (by omega) (by simp; omega) (by simpa [hg] using hr)
        refine Ev.step (fun k => ?_) h1
        rw [rudderref02_Sort.l1, if_pos (by omega), if_neg (by simp), if_pos (by omega), if_pos (by omega), if_pos (by omega), rd_nat, rd_nat, if_neg hg, if_pos (by omega), w64 (by omega) (by omega)]
        rfl
theorem take_gx (l : List Int) (i : Nat) (h : i < l.length) : l.take (i + 1) = l.take i ++ [gx l i] := by
  rw [List.take_succ_eq_append_getElem h, gx_lt l i h]
theorem ev_sort0 (l : List Int) (hm : l.length ≤ 1000) (d : Nat) : ∀ i, i ≤ l.length → l.length - i = d → Ev (fun k => rudderref02_Sort.l0 k l (sortI (l.take i)) (i : Int)) (sortI l) := by
  induction d with
  | zero =>
    intro i hi hd
    obtain rfl : i = l.length := by omega
    refine stop fun k => ?_
    rw [rudderref02_Sort.l0, if_neg (by omega), List.take_length]
  | succ d ih =>
    intro i hi hd
    have hlt : i < l.length := by omega
    have h1 := ih (i + 1) (by omega) (by omega)
    rw [take_gx l i hlt, ← insR_sort] at h1
    have hlen : (sortI (l.take i)).length ≤ 1000 := by rw [sortI_length]; simp; omega
    refine Ev.step (fun k => ?_) (ev_sort1 l i hlt hm (sortI l) (sortI (l.take i)) hlen _ 0 [] false (by omega) rfl (by simp) (by simpa using h1))
    rw [rudderref02_Sort.l0, if_pos (by omega)]
    rfl
theorem ev_sort (l : List Int) (hm : l.length ≤ 140737488351232) : Ev (fun k => rudderref02_Sort.f k l) (if okB l = true then sortI l else []) := by
  unfold rudderref02_Sort.f
  refine Ev.bind (ev_right l hm) ?_
  by_cases h : okB l = true
  · have hl : l.length ≤ 1000 := by unfold okB at h; simp at h; omega
    rw [if_pos h, h]
    have := ev_sort0 l hl l.length 0 (by omega) (by omega)
    simpa [sortI] using this
  · rw [if_neg h]
    have h' : okB l = false := by simpa using h
    rw [h']
    exact Ev.now _
theorem half_some (a b : Int) (ha : -1099511627776 ≤ a ∧ a ≤ 1099511627776) (hb : -1099511627776 ≤ b ∧ b ≤ 1099511627776) : rudderref02_half.f a b = some ((a + b) / 2) := by
  unfold rudderref02_half.f
  rw [w64 (x := a + b) (by omega) (by omega)]
  by_cases h : a + b ≥ 0
  · rw [if_pos h, Int.tdiv_eq_ediv_of_nonneg h, w64 (by omega) (by omega)]
  · rw [if_neg h, w64 (x := 1 - (a + b)) (by omega) (by omega), Int.tdiv_eq_ediv_of_nonneg (by omega), w64 (x := (1 - (a + b)) / 2) (by omega) (by omega), w64 (by omega) (by omega)]
    congr 1
    omega
theorem ev_mid (l : List Int) (hm : l.length ≤ 140737488351232) : Ev (fun k => rudderref02_Mid.f k l) (if midB l = true then (midI (sortI l), true) else (0, false)) := by
  unfold rudderref02_Mid.f
  refine Ev.bind (ev_right l hm) ?_
  have hno : Ev (fun k => rudderref02_Mid.j0 k l true) (0, false) := stop fun k => by rw [rudderref02_Mid.j0, if_pos rfl]
  unfold midB
  by_cases h : okB l = true
  · rw [h]
    by_cases h1 : 1 ≤ l.length
    · by_cases h4 : l.length ≤ 4
      · rw [if_pos (by simp [h1, h4])]
        refine Ev.congr (f := fun k => rudderref02_Mid.j0 k l false) (fun k => ?_) ?_
        · rw [if_pos rfl, if_neg (by omega), decide_eq_false (by omega)]
        · have hs := ev_sort l hm
          rw [if_pos h] at hs
          have hlen := sortI_length l
          have b := fun j (hj : j < l.length) => gx_small h j hj
          refine Ev.step (f := fun k => (rudderref02_Sort.f k l).bind _) (fun k => by rw [rudderref02_Mid.j0, if_neg (by simp)]) (Ev.bind hs ?_)
          refine Ev.congr (f := fun _ => some (midI (sortI l), true)) (fun k => ?_) (Ev.now _)
          have e0 : rd (sortI l) 0 = gx (sortI l) 0 := rd_nat _ 0
          have e1 : rd (sortI l) 1 = gx (sortI l) 1 := rd_nat _ 1
          have e2 : rd (sortI l) 2 = gx (sortI l) 2 := rd_nat _ 2
          unfold midI
          rw [e0, e1, e2, hlen]
          rcases (show l.length = 1 ∨ l.length = 2 ∨ l.length = 3 ∨ l.length = 4 by omega) with e | e | e | e <;> rw [e]
          · have := b 0 (by omega)
            simp
            omega
          · have b0 := b 0 (by omega)
            have b1 := b 1 (by omega)
            simp [half_some _ _ b0 b1]
          · simp
            omega
          · have b0 := b 1 (by omega)
            have b1 := b 2 (by omega)
            simp [half_some _ _ b0 b1]
      · rw [if_neg (by simp [h4])]
        refine Ev.congr (fun k => ?_) hno
        rw [if_pos rfl, if_neg (by omega), decide_eq_true (by omega)]
    · rw [if_neg (by simp [h1])]
      refine Ev.congr (fun k => ?_) hno
      rw [if_pos rfl, if_pos (by omega)]
  · have h' : okB l = false := by simpa using h
    rw [h', if_neg (by simp)]
    exact Ev.congr (fun k => by rw [if_neg (by simp)]) hno
theorem ev_spread (l : List Int) (hm : l.length ≤ 140737488351232) : Ev (fun k => rudderref02_Spread.f k l) (if okB l = true ∧ 0 < l.length then spreadI l else 0) := by
  unfold rudderref02_Spread.f
  refine Ev.bind (ev_sort l hm) ?_
  refine Ev.congr (f := fun _ => some (if okB l = true ∧ 0 < l.length then spreadI l else 0)) (fun k => ?_) (Ev.now _)
  by_cases h : okB l = true
  · rw [if_pos h]
    have hlen := sortI_length l
    by_cases h0 : 0 < l.length
    · have hr : (if okB l = true ∧ 0 < l.length then spreadI l else 0) = spreadI l := if_pos ⟨h, h0⟩
      rw [hr, hlen, if_neg (by omega)]
      rw [w64 (x := (l.length : Int) - 1) (by omega) (by omega), if_pos (by omega), if_pos (by omega), if_pos (by omega)]
      have e0 : rd (sortI l) 0 = gx (sortI l) 0 := rd_nat _ 0
      have e1 : rd (sortI l) ((l.length : Int) - 1) = gx (sortI l) (l.length - 1) := by
        rw [show (l.length : Int) - 1 = ((l.length - 1 : Nat) : Int) by omega, rd_nat]
      have b0 := gx_small h 0 h0
      have b1 := gx_small h (l.length - 1) (by omega)
      rw [e0, e1, w64 (by omega) (by omega)]
      rfl
    · have hr : (if okB l = true ∧ 0 < l.length then spreadI l else 0) = 0 := if_neg (fun q => h0 q.2)
      rw [hr, hlen, if_pos (by omega)]
  · have hr : (if okB l = true ∧ 0 < l.length then spreadI l else 0) = 0 := if_neg (fun q => h q.1)
    rw [hr, if_neg h]
    rfl
theorem ev_without0 (l : List Int) (a : Int) (hm : l.length ≤ 1000) (d : Nat) : ∀ (i : Nat), i ≤ l.length → l.length - i = d →
    Ev (fun k => rudderref02_Without.l0 k l a (if 0 ≤ a ∧ a < i then dropI (l.take i) a.toNat else l.take i) (i : Int)) (withoutI l a) := by
  induction d with
  | zero =>
    intro i hi hd
    obtain rfl : i = l.length := by omega
    refine stop fun k => ?_
    rw [rudderref02_Without.l0, if_neg (by omega), List.take_length]
    rfl
  | succ d ih =>
    intro i hi hd
    have hlt : i < l.length := by omega
    have h1 := ih (i + 1) (by omega) (by omega)
    refine Ev.step (fun k => ?_) h1
    rw [rudderref02_Without.l0, if_pos (by omega)]
    by_cases e : (i : Int) = a
    · subst e
      rw [if_pos rfl, w64 (by omega) (by omega)]
      rw [if_neg (by omega), if_pos (by omega), Int.toNat_natCast, take_gx l i hlt]
      have hl : (l.take i).length = i := by simp; omega
      have he : dropI (l.take i ++ [gx l i]) i = l.take i := by
        unfold dropI
        rw [List.take_append_of_le_length (by omega), List.drop_eq_nil_of_le (by simp; omega), List.take_of_length_le (by omega), List.append_nil]
      rw [he]
      rfl
    · rw [if_neg e, if_pos (by omega), w64 (by omega) (by omega), rd_nat]
      have hlen : (if 0 ≤ a ∧ a < (i : Int) then dropI (l.take i) a.toNat else l.take i).length < 17592186044416 := by
        split <;> simp [dropI] <;> omega
      rw [if_pos hlen]
      congr 1
      by_cases h2 : 0 ≤ a ∧ a < (i : Int)
      · rw [if_pos h2, if_pos (by omega), take_gx l i hlt]
        have : a.toNat + 1 ≤ (l.take i).length := by simp; omega
        unfold dropI
        rw [List.take_append_of_le_length (by omega), List.drop_append_of_le_length this, List.append_assoc]
      · rw [if_neg h2, if_neg (by omega), take_gx l i hlt]
theorem ev_without (l : List Int) (a : Int) (hm : l.length ≤ 140737488351232) : Ev (fun k => rudderref02_Without.f k l a) (if okB l = true then withoutI l a else []) := by
  unfold rudderref02_Without.f
  refine Ev.bind (ev_right l hm) ?_
  by_cases h : okB l = true
  · have hl : l.length ≤ 1000 := by unfold okB at h; simp at h; omega
    rw [if_pos h, h]
    have := ev_without0 l a hl l.length 0 (by omega) (by omega)
    rw [if_neg (by omega)] at this
    simpa using this
  · rw [if_neg h]
    have h' : okB l = false := by simpa using h
    rw [h']
    exact Ev.now _
end Go.Proofs.Ytdhmefdnpiidbaa.Ref
