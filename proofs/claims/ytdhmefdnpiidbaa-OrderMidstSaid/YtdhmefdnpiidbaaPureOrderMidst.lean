/- For every list of at most 15 small numbers, one more small number, and every turn: of one to four of them the mid is between the least and the greatest and the same for the list turned and sorted; of two or three with the one more it is between the least and the greatest of those; without the one more the list is as it was. -/
import Derived.Test.YtdhmefdnpiidbaaPOrderMidstx2
import Derived.Test.YtdhmefdnpiidbaaAlv02
import Derived.OpenShut
namespace Go.Proofs.Ytdhmefdnpiidbaa.Pure
open Go.RowKit Go.Proofs.Ytdhmefdnpiidbaa.POrderMidst Go.Proofs.YtdhmefdnpiidbaaW.PrintWords Go.Proofs.YtdhmefdnpiidbaaW.PrintLast
open Go.Proofs.Ytdhmefdnpiidbaa.Base Go.Proofs.Ytdhmefdnpiidbaa.Ord Go.Proofs.Ytdhmefdnpiidbaa.Ref Go.Proofs.Ytdhmefdnpiidbaa.Al02

theorem ok_sub {l m : List Int} (h : okB l = true) (hl : m.length ≤ l.length) (hs : ∀ x ∈ m, x ∈ l) : okB m = true := by
  unfold okB at *
  simp only [Bool.and_eq_true, Bool.not_eq_true', List.any_eq_false, decide_eq_true_eq] at *
  exact ⟨by omega, fun x hx => h.2 x (hs x hx)⟩
theorem ok_perm {l m : List Int} (h : okB l = true) (hp : m.Perm l) : okB m = true := ok_sub h (by rw [hp.length_eq]; omega) fun _ hx => hp.mem_iff.1 hx

theorem mid_between (s : List Int) (ha : Asc s) (h1 : 1 ≤ s.length) (h4 : s.length ≤ 4) : gx s 0 ≤ midI s ∧ midI s ≤ gx s (s.length - 1) := by
  have a0 := asc_step ha 0 ((s.length - 1) / 2) (by omega) (by omega)
  have a1 := asc_step ha 0 (s.length / 2) (by omega) (by omega)
  have a2 := asc_step ha ((s.length - 1) / 2) (s.length - 1) (by omega) (by omega)
  have a3 := asc_step ha (s.length / 2) (s.length - 1) (by omega) (by omega)
  unfold midI
  omega
theorem odd2 (a b x : Int) (h : a ≤ b) : a ≤ midI (insR x [a, b]) ∧ midI (insR x [a, b]) ≤ b := by
  unfold insR
  split
  · simp [midI, gx]; omega
  · unfold insR
    split
    · simp [midI, gx]; omega
    · simp [insR, midI, gx]; omega
theorem odd3 (a b c x : Int) (h : a ≤ b) (h2 : b ≤ c) : a ≤ midI (insR x [a, b, c]) ∧ midI (insR x [a, b, c]) ≤ c := by
  unfold insR
  split
  · simp [midI, gx]; omega
  · unfold insR
    split
    · simp [midI, gx]; omega
    · unfold insR
      split
      · simp [midI, gx]; omega
      · simp [insR, midI, gx]; omega
theorem mid_odd (l : List Int) (x : Int) (h : l.length = 2 ∨ l.length = 3) : gx (sortI l) 0 ≤ midI (sortI (l ++ [x])) ∧ midI (sortI (l ++ [x])) ≤ gx (sortI l) (l.length - 1) := by
  rw [← insR_sort]
  have hlen := sortI_length l
  have ha := sortI_asc l
  generalize sortI l = s at *
  rcases h with h | h
  · rw [h] at hlen ⊢
    match s, hlen with
    | [a, b], _ =>
      have := asc_step ha 0 1 (by omega) (by simp)
      simpa [gx] using odd2 a b x (by simpa [gx] using this)
  · rw [h] at hlen ⊢
    match s, hlen with
    | [a, b, c], _ =>
      have h1 := asc_step ha 0 1 (by omega) (by simp)
      have h2 := asc_step ha 1 2 (by omega) (by simp)
      simpa [gx] using odd3 a b c x (by simpa [gx] using h1) (by simpa [gx] using h2)
theorem without_last (l : List Int) (x : Int) : withoutI (l ++ [x]) (l.length : Int) = l := by
  unfold withoutI
  rw [if_pos (by simp; omega), Int.toNat_natCast]
  simp [dropI]

/-- The end of both ways: without the one more it is the list; the live question. -/
theorem ev_end (l : List Int) (x : Int) (h : okB (l ++ [x]) = true) (hm : l.length ≤ 1000) :
    Ev (fun k => (order_Without.f (l ++ [x]) (l.length : Int)).bind fun t => (rudderref02_Ints.f k t l).bind fun q => (rudderlaw02_alive.f k).bind fun z => if z = true then some q else some false) true := by
  refine Ev.bind (g := fun _ => order_Without.f (l ++ [x]) (l.length : Int)) (Ev.now _) ?_
  rw [if_pos h, without_last]
  refine Ev.bind (ev_ints l l (by omega)) ?_
  refine Ev.bind ev_alive ?_
  simp only [decide_true, if_true]
  exact Ev.now _

theorem ev_j4 (l : List Int) (x : Int) (h : okB (l ++ [x]) = true) (hm : l.length ≤ 1000) : Ev (fun k => rudderlaw02_OrderMidst.j4 k l x false) true := by
  refine Ev.step (fun k => ?_) (ev_end l x h hm)
  rw [rudderlaw02_OrderMidst.j4, if_neg (by simp)]
  simp only [Option.bind_some, List.nil_append, List.length_nil]
  rw [if_pos (by omega)]
  try simp only [Option.bind_some]
  rw [if_pos (by omega)]
theorem ev_j3no (l : List Int) (x : Int) (s : List Int) (h : okB (l ++ [x]) = true) (hm : l.length ≤ 1000) : Ev (fun k => rudderlaw02_OrderMidst.j3 k l x s false) true := by
  refine Ev.step (fun k => ?_) (ev_end l x h hm)
  rw [rudderlaw02_OrderMidst.j3, if_neg (by simp)]
  simp only [Option.bind_some, List.nil_append, List.length_nil]
  rw [if_pos (by omega)]
  try simp only [Option.bind_some]
  rw [if_pos (by omega)]
theorem rd_last (l : List Int) (h : 0 < l.length) : rd (sortI l) ((l.length : Int) - 1) = gx (sortI l) (l.length - 1) := by
  rw [show (l.length : Int) - 1 = ((l.length - 1 : Nat) : Int) by omega, rd_nat]
theorem ev_j3yes (l : List Int) (x : Int) (h : okB (l ++ [x]) = true) (hl : l.length = 2 ∨ l.length = 3) : Ev (fun k => rudderlaw02_OrderMidst.j3 k l x (sortI l) true) true := by
  have hb : midB (l ++ [x]) = true := by unfold midB; rw [h]; simp; omega
  have hb2 := mid_odd l x hl
  have hlen := sortI_length l
  have e0 : rd (sortI l) 0 = gx (sortI l) 0 := rd_nat _ 0
  refine Ev.step (fun k => ?_) (ev_j4 l x h (by omega))
  rw [rudderlaw02_OrderMidst.j3, if_pos rfl]
  simp only [Option.bind_some, List.nil_append, List.length_nil]
  rw [if_pos (by omega)]
  try simp only [Option.bind_some]
  rw [if_pos (by omega), order_Mid.f, if_pos hb, hlen]
  simp only [Option.bind_some, if_true]
  rw [if_pos (by omega), e0, if_neg (by omega), w64 (by omega) (by omega), if_pos (by omega), if_pos (by omega), rd_last l (by omega), decide_eq_false (by omega)]
theorem ev_j2 (l : List Int) (x : Int) (h : okB (l ++ [x]) = true) (h4 : l.length ≤ 4) : Ev (fun k => rudderlaw02_OrderMidst.j2 k l x (sortI l) false) true := by
  by_cases e2 : (l.length : Int) = 2
  · refine Ev.step (fun k => ?_) (ev_j3yes l x h (by omega))
    rw [rudderlaw02_OrderMidst.j2, if_neg (by simp), if_pos e2]
  · by_cases e3 : (l.length : Int) = 3
    · refine Ev.step (fun k => ?_) (ev_j3yes l x h (by omega))
      rw [rudderlaw02_OrderMidst.j2, if_neg (by simp), if_neg e2, beq_iff_eq.2 e3]
    · refine Ev.step (fun k => ?_) (ev_j3no l x (sortI l) h (by omega))
      rw [rudderlaw02_OrderMidst.j2, if_neg (by simp), if_neg e2, beq_eq_false_iff_ne.2 e3]
theorem ev_j1 (l : List Int) (x t : Int) (h : okB (l ++ [x]) = true) (h0 : okB l = true) (h1 : 1 ≤ l.length) (h4 : l.length ≤ 4) (ht : 0 ≤ t ∧ t ≤ 255) : Ev (fun k => rudderlaw02_OrderMidst.j1 k l x t (sortI l) (midI (sortI l)) false) true := by
  obtain ⟨q, hq1, hq2⟩ : ∃ q : Nat, Int.tmod t (l.length : Int) = q ∧ q < l.length := by
    refine ⟨(Int.tmod t l.length).toNat, ?_, ?_⟩
    · have := Int.tmod_nonneg (l.length : Int) ht.1
      omega
    · have := Int.tmod_lt_of_pos t (show 0 < (l.length : Int) by omega)
      have := Int.tmod_nonneg (l.length : Int) ht.1
      omega
  have hperm : (l.drop q ++ l.take q).Perm l := by
    have := List.perm_append_comm (l₁ := l.drop q) (l₂ := l.take q)
    rwa [List.take_append_drop] at this
  have hlen := sortI_length l
  have hb1 : midB (l.drop q ++ l.take q) = true := by unfold midB; rw [ok_perm h0 hperm, hperm.length_eq]; simp [h1, h4]
  have hb2 : midB (sortI l) = true := by unfold midB; rw [ok_perm h0 (sortI_perm l), hlen]; simp [h1, h4]
  refine Ev.step (fun k => ?_) (ev_j2 l x h h4)
  rw [rudderlaw02_OrderMidst.j1, if_neg (by simp), if_neg (by omega), w64 (x := t) (by omega) (by omega), hq1]
  simp only [Option.bind_some, List.nil_append, List.length_nil]
  rw [if_pos (by omega), if_pos (by omega), Int.toNat_natCast, if_pos (by simp; omega)]
  try simp only [Option.bind_some]
  rw [if_pos (by simp; omega), order_Mid.f, if_pos hb1, order_Mid.f, if_pos hb2, sortI_of_perm hperm, sortI_of_asc (sortI_asc l)]
  simp
theorem ev_j0 (l : List Int) (x t : Int) (h : okB (l ++ [x]) = true) (h1 : 1 ≤ l.length) (h4 : l.length ≤ 4) (ht : 0 ≤ t ∧ t ≤ 255) : Ev (fun k => rudderlaw02_OrderMidst.j0 k l x t false) true := by
  have h0 : okB l = true := ok_sub h (by simp) fun y hy => List.mem_append_left _ hy
  have hb : midB l = true := by unfold midB; rw [h0]; simp [h1, h4]
  have hlen := sortI_length l
  have hm := mid_between (sortI l) (sortI_asc l) (by omega) (by omega)
  rw [hlen] at hm
  have e0 : rd (sortI l) 0 = gx (sortI l) 0 := rd_nat _ 0
  refine Ev.step (fun k => ?_) (ev_j1 l x t h h0 h1 h4 ht)
  rw [rudderlaw02_OrderMidst.j0, if_neg (by simp), order_Sort.f, if_pos h0, order_Mid.f, if_pos hb]
  try simp only [Option.bind_some]
  simp only [if_true]
  rw [hlen, if_pos rfl, if_pos (by omega), e0, if_neg (by omega), w64 (by omega) (by omega), if_pos (by omega), if_pos (by omega), rd_last l (by omega), decide_eq_false (by omega)]

theorem OrderMidst : rudderlaw02_OrderMidst.Pure := by
  intro l x t _ h8 _ _ ht
  have hm : l.length ≤ 17592186044300 := by omega
  have ht' : 0 ≤ t ∧ t ≤ 255 := by
    have := bounds_u8 ht
    omega
  refine Ev.rounds (g := fun k => rudderlaw02_OrderMidst.f k l x t) ?_
  refine Ev.congr (f := fun k => (rudderref02_Right.f k (l ++ [x])).bind fun t110 => (if t110 = true then (if (l.length : Int) < 1 then (rudderlaw02_OrderMidst.j0 k l x t true) else (rudderlaw02_OrderMidst.j0 k l x t (decide ((l.length : Int) > 4)))) else (rudderlaw02_OrderMidst.j0 k l x t true))) (fun k => ?_) ?_
  · rw [rudderlaw02_OrderMidst.f]
    simp only [Option.bind_some, List.nil_append, List.length_nil]
    rw [if_pos (by omega)]
    try simp only [Option.bind_some]
    rw [if_pos (by omega)]
  · have hno : Ev (fun k => rudderlaw02_OrderMidst.j0 k l x t true) true := by
      refine Ev.step (f := fun k => (rudderlaw02_alive.f k).bind fun t => some t) (fun k => by rw [rudderlaw02_OrderMidst.j0, if_pos rfl]) ?_
      exact Ev.bind ev_alive (Ev.now _)
    refine Ev.bind (ev_right (l ++ [x]) (by simp; omega)) ?_
    by_cases h : okB (l ++ [x]) = true
    · simp only [if_pos h]
      by_cases h1 : (l.length : Int) < 1
      · simp only [if_pos h1]
        exact hno
      · simp only [if_neg h1]
        by_cases h4 : (l.length : Int) > 4
        · simp only [decide_eq_true h4]
          exact hno
        · simp only [decide_eq_false h4]
          exact ev_j0 l x t h (by omega) (by omega) ht'
    · simp only [if_neg h]
      exact hno

end Go.Proofs.Ytdhmefdnpiidbaa.Pure
