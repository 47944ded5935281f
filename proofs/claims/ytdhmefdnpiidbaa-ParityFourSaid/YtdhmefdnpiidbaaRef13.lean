/- What the functions of layer 13 answer, as plain functions on lists. -/
import Derived.Test.YtdhmefdnpiidbaaPar1x1
import Derived.Test.YtdhmefdnpiidbaaBasex6
import Derived.Test.YtdhmefdnpiidbaaRef02
namespace Go.Proofs.Ytdhmefdnpiidbaa.Ref
open Go.RowKit Go.Proofs.YtdhmefdnpiidbaaW.PrintWords Go.Proofs.YtdhmefdnpiidbaaW.PrintLast Go.Proofs.YtdhmefdnpiidbaaW.PrintMore
open Go.Proofs.Ytdhmefdnpiidbaa.Base Go.Proofs.Ytdhmefdnpiidbaa.Ord Go.Proofs.Ytdhmefdnpiidbaa.Par Go.Proofs.Ytdhmefdnpiidbaa.Par1

theorem ev_small0 (l : List Int) (hm : l.length ≤ 140737488351232) (h : ∀ x ∈ l, -1099511627776 ≤ x ∧ x ≤ 1099511627776) (d : Nat) : ∀ i, i ≤ l.length → l.length - i = d →
    Ev (fun k => fix_small.l0 k l (l.length : Int) (i : Int)) true := by
  induction d with
  | zero =>
    intro i hi hd
    obtain rfl : i = l.length := by omega
    exact stop fun k => by rw [fix_small.l0, if_neg (by omega)]
  | succ d ih =>
    intro i hi hd
    have hlt : i < l.length := by omega
    have hb := h _ (gx_mem l i hlt)
    refine Ev.step (fun k => ?_) (ih (i + 1) (by omega) (by omega))
    rw [fix_small.l0, if_pos (by omega), if_pos (by omega), if_pos (by omega), rd_nat, if_neg (by omega), if_neg (by omega), w64 (by omega) (by omega)]
    rfl
theorem ev_small (l : List Int) (hm : l.length ≤ 140737488351232) (h : ∀ x ∈ l, -1099511627776 ≤ x ∧ x ≤ 1099511627776) : Ev (fun k => fix_small.f k l) true := by
  have := ev_small0 l hm h l.length 0 (by omega) (by omega)
  simpa [fix_small.f] using this
def absI (n : Int) : Int := if n < 0 then -n else n
theorem ev_apart (n : Int) (h : -1099511627776 ≤ n ∧ n ≤ 1099511627776) : Ev (fun k => fix_Apart.f k n 0) (absI n) := by
  unfold fix_Apart.f
  refine Ev.bind (ev_small [n, 0] (by simp) (fun x hx => ?_)) ?_
  · simp at hx
    omega
  · rw [w64 (x := n - 0) (by omega) (by omega), w64 (x := 0 - n) (by omega) (by omega)]
    refine Ev.congr (f := fun _ => some (absI n)) (fun k => ?_) (Ev.now _)
    simp only [if_true]
    unfold mx absI
    congr 1
    split <;> split <;> omega

/-- The one beyond the bound, if it is just one. -/
def sus (b : Int) : List Int → Int → Int → Int
  | [], _, out => out
  | x :: xs, i, out => if absI x ≤ b then sus b xs (i + 1) out else if out ≥ 0 then -1 else sus b xs (i + 1) i
def suspI (r : List Int) (b : Int) : Int := if b < 0 then -1 else sus b r 0 (-1)

theorem ev_sus0 (r : List Int) (b : Int) (hm : r.length ≤ 1000) (hr : ∀ x ∈ r, -1099511627776 ≤ x ∧ x ≤ 1099511627776) (d : Nat) : ∀ (i : Nat) (out : Int), i ≤ r.length → r.length - i = d →
    Ev (fun k => parity_Suspect.l0 k b out r (r.length : Int) (i : Int)) (sus b (r.drop i) (i : Int) out) := by
  induction d with
  | zero =>
    intro i out hi hd
    obtain rfl : i = r.length := by omega
    refine stop fun k => ?_
    rw [parity_Suspect.l0, if_neg (by omega), List.drop_length]
    rfl
  | succ d ih =>
    intro i out hi hd
    have hlt : i < r.length := by omega
    rw [drop_cons r i hlt, sus]
    refine Ev.step (f := fun k => (fix_Apart.f k (gx r i) 0).bind fun t => if t ≤ b then parity_Suspect.l0 k b out r (r.length : Int) ((i + 1 : Nat) : Int) else if out ≥ 0 then some (-1) else parity_Suspect.l0 k b (i : Int) r (r.length : Int) ((i + 1 : Nat) : Int)) (fun k => ?_) ?_
    · rw [parity_Suspect.l0, if_pos (by omega), if_pos (by omega), if_pos (by omega), rd_nat, w64 (by omega) (by omega)]
      rfl
    · refine Ev.bind (ev_apart _ (hr _ (gx_mem r i hlt))) ?_
      by_cases h1 : absI (gx r i) ≤ b
      · simp only [if_pos h1]
        exact ih (i + 1) out (by omega) (by omega)
      · simp only [if_neg h1]
        by_cases h2 : out ≥ 0
        · simp only [if_pos h2]
          exact Ev.now _
        · simp only [if_neg h2]
          exact ih (i + 1) (i : Int) (by omega) (by omega)
theorem resI_small (l : List Int) (h : farOk l = true) : (resI l).length = l.length ∧ ∀ x ∈ resI l, -8589934592 ≤ x ∧ x ≤ 8589934592 := by
  unfold farOk at h
  simp only [Bool.and_eq_true, decide_eq_true_eq, Bool.not_eq_true'] at h
  refine ⟨by simp [resI], fun x hx => ?_⟩
  simp only [resI, List.mem_map, List.mem_range] at hx
  obtain ⟨i, hi, rfl⟩ := hx
  exact resAt_bound h.2 h.1.1 h.1.2 i hi
def resOf (l : List Int) : List Int := if farOk l = true then resI l else []
theorem resOf_small (l : List Int) : (resOf l).length ≤ 1000 ∧ ∀ x ∈ resOf l, -8589934592 ≤ x ∧ x ≤ 8589934592 := by
  unfold resOf
  by_cases h : farOk l = true
  · rw [if_pos h]
    have := resI_small l h
    unfold farOk at h
    simp at h
    exact ⟨by omega, this.2⟩
  · rw [if_neg h]
    exact ⟨by simp, fun x hx => by simp at hx⟩
theorem ev_suspect (l : List Int) (b : Int) : Ev (fun k => parity_Suspect.f k l b) (suspI (resOf l) b) := by
  unfold parity_Suspect.f suspI
  by_cases h : b < 0
  · simp only [if_pos h]
    exact Ev.now _
  · simp only [if_neg h]
    refine Ev.bind (g := fun _ => parity_Residues.f l) (Ev.now _) ?_
    have hs := resOf_small l
    have := ev_sus0 (resOf l) b hs.1 (fun x hx => by have := hs.2 x hx; omega) (resOf l).length 0 (-1) (by omega) (by omega)
    simpa [resOf] using this
/-- The document's loop comes to the same. -/
theorem ev_refsus0 (r : List Int) (b : Int) (hb : -9223372036854775808 ≤ b ∧ b ≤ 9223372036854775807) (h0 : 0 ≤ b) (hm : r.length ≤ 1000) (d : Nat) : ∀ (i n : Nat) (at_ : Int) (out : Int), i ≤ r.length → r.length - i = d → n ≤ i →
    ((n = 0 ∧ out = -1) ∨ (n = 1 ∧ out = at_ ∧ 0 ≤ at_) ∨ 2 ≤ n) →
    Ev (fun k => rudderref13_Suspect.l0 k b r (n : Int) at_ (i : Int)) (if 2 ≤ n then -1 else sus b (r.drop i) (i : Int) out) := by
  induction d with
  | zero =>
    intro i n at_ out hi hd hn hs
    obtain rfl : i = r.length := by omega
    refine stop fun k => ?_
    rw [rudderref13_Suspect.l0, if_neg (by omega), List.drop_length]
    rcases hs with ⟨rfl, rfl⟩ | ⟨rfl, rfl, _⟩ | h2
    · simp [sus]
    · simp [sus]
    · rw [if_neg (by omega), if_pos h2]
  | succ d ih =>
    intro i n at_ out hi hd hn hs
    have hlt : i < r.length := by omega
    rw [drop_cons r i hlt, sus]
    have hstep : ∀ k, rudderref13_Suspect.l0 (k + 1) b r (n : Int) at_ (i : Int) = if absI (gx r i) ≤ b then rudderref13_Suspect.l0 k b r (n : Int) at_ ((i + 1 : Nat) : Int) else rudderref13_Suspect.l0 k b r ((n + 1 : Nat) : Int) (i : Int) ((i + 1 : Nat) : Int) := by
      intro k
      rw [rudderref13_Suspect.l0, if_pos (by omega), if_pos h0, if_pos (by omega), rd_nat, w64 (x := (n : Int) + 1) (by omega) (by omega), w64 (x := (i : Int) + 1) (by omega) (by omega), w64 (x := -b) (by omega) (by omega)]
      unfold absI
      by_cases h1 : gx r i > b
      · rw [if_pos h1, if_neg (show ¬ gx r i < 0 by omega), if_neg (show ¬ gx r i ≤ b by omega)]
        rfl
      · rw [if_neg h1]
        by_cases h2 : gx r i < -b
        · rw [if_pos h2, if_pos (show gx r i < 0 by omega), if_neg (show ¬ -gx r i ≤ b by omega)]
          rfl
        · rw [if_neg h2, if_pos (by split <;> omega)]
          rfl
    by_cases h1 : absI (gx r i) ≤ b
    · have := ih (i + 1) n at_ out (by omega) (by omega) (by omega) hs
      refine Ev.step (f := fun k => rudderref13_Suspect.l0 k b r (n : Int) at_ ((i + 1 : Nat) : Int)) (fun k => by rw [hstep, if_pos h1]) ?_
      rw [if_pos h1]
      exact this
    · refine Ev.step (f := fun k => rudderref13_Suspect.l0 k b r ((n + 1 : Nat) : Int) (i : Int) ((i + 1 : Nat) : Int)) (fun k => by rw [hstep, if_neg h1]) ?_
      rw [if_neg h1]
      rcases hs with ⟨rfl, rfl⟩ | ⟨rfl, rfl, hat⟩ | h2
      · have := ih (i + 1) 1 (i : Int) (i : Int) (by omega) (by omega) (by omega) (.inr (.inl ⟨rfl, rfl, by omega⟩))
        simpa using this
      · have := ih (i + 1) 2 (i : Int) 0 (by omega) (by omega) (by omega) (.inr (.inr (Nat.le_refl _)))
        rw [if_neg (by omega), if_pos hat]
        simpa using this
      · have := ih (i + 1) (n + 1) (i : Int) 0 (by omega) (by omega) (by omega) (.inr (.inr (by omega)))
        rw [if_pos (by omega)] at this
        rw [if_pos h2]
        exact this
theorem ev_refsusneg (r : List Int) (b : Int) (h0 : b < 0) (hm : r.length ≤ 1000) (d : Nat) : ∀ (i : Nat), i ≤ r.length → r.length - i = d →
    Ev (fun k => rudderref13_Suspect.l0 k b r 0 (-1) (i : Int)) (-1) := by
  induction d with
  | zero =>
    intro i hi hd
    obtain rfl : i = r.length := by omega
    refine stop fun k => ?_
    rw [rudderref13_Suspect.l0, if_neg (by omega)]
    rfl
  | succ d ih =>
    intro i hi hd
    refine Ev.step (fun k => ?_) (ih (i + 1) (by omega) (by omega))
    rw [rudderref13_Suspect.l0, if_pos (by omega), if_neg (by omega), w64 (by omega) (by omega)]
    rfl

theorem ev_refres1 (l : List Int) (h : farOk l = true) (d : Nat) : ∀ (i : Nat), i ≤ l.length → l.length - i = d →
    Ev (fun k => rudderref13_Residues.l1 k l ((resI l).take i) (i : Int)) (resI l) := by
  have hf := h
  unfold farOk at hf
  simp only [Bool.and_eq_true, decide_eq_true_eq, Bool.not_eq_true'] at hf
  obtain ⟨⟨h2, h4⟩, ha⟩ := hf
  have hok := far_ok h4 ha
  have hlen : (resI l).length = l.length := by simp [resI]
  induction d with
  | zero =>
    intro i hi hd
    obtain rfl : i = l.length := by omega
    refine stop fun k => ?_
    rw [rudderref13_Residues.l1, if_neg (by omega), List.take_of_length_le (by omega)]
  | succ d ih =>
    intro i hi hd
    have hlt : i < l.length := by omega
    have hdl := dropI_length l i hlt
    have hw := ev_without l (i : Int) (by omega)
    rw [if_pos hok] at hw
    have hwi : withoutI l (i : Int) = dropI l i := by unfold withoutI; rw [if_pos (by omega), Int.toNat_natCast]
    rw [hwi] at hw
    have hmd := ev_mid (dropI l i) (by omega)
    have hmb : midB (dropI l i) = true := by unfold midB; rw [far_ok (by omega) (drop_any i ha)]; simp; omega
    rw [if_pos hmb] at hmd
    have hb := resAt_bound ha h2 h4 i hlt
    have hnext := ih (i + 1) (by omega) (by omega)
    have htk : (resI l).take (i + 1) = (resI l).take i ++ [resAt l i] := by
      rw [List.take_succ_eq_append_getElem (by omega)]
      simp [resI]
    rw [htk] at hnext
    refine Ev.step (f := fun k => (rudderref02_Without.f k l (i : Int)).bind _) (fun k => by rw [rudderref13_Residues.l1, if_pos (by omega)]) ?_
    refine Ev.bind hw ?_
    refine Ev.bind hmd ?_
    refine Ev.congr (fun k => ?_) hnext
    rw [rd_nat, if_pos (by omega), if_pos (by simp; omega), w64 (x := (i : Int) + 1) (by omega) (by omega), show gx l i - (midI (sortI (dropI l i)), true).1 = resAt l i from rfl, w64 (x := resAt l i) (by omega) (by omega)]
    rfl
theorem ev_refres0 (l : List Int) (h2 : 2 ≤ l.length) (h4 : l.length ≤ 4) (d : Nat) : ∀ (i : Nat), i ≤ l.length → l.length - i = d → (∀ j, j < i → farB (gx l j) = false) →
    Ev (fun k => rudderref13_Residues.l0 k l (i : Int)) (resOf l) := by
  induction d with
  | zero =>
    intro i hi hd hj
    obtain rfl : i = l.length := by omega
    have ha : l.any farB = false := by
      refine List.any_eq_false.2 fun x hx => ?_
      obtain ⟨j, hjl, rfl⟩ := mem_gx hx
      rw [hj j hjl]
      simp
    have h : farOk l = true := by unfold farOk; rw [ha]; simp [h2, h4]
    have := ev_refres1 l h l.length 0 (by omega) (by omega)
    refine Ev.step (fun k => ?_) (by simpa [resOf, h] using this)
    rw [rudderref13_Residues.l0, if_neg (by omega)]
  | succ d ih =>
    intro i hi hd hj
    have hlt : i < l.length := by omega
    by_cases hb : farB (gx l i) = true
    · have ha : l.any farB = true := List.any_eq_true.2 ⟨gx l i, gx_mem l i hlt, hb⟩
      have h : resOf l = [] := by unfold resOf farOk; rw [ha]; simp
      rw [h]
      refine stop fun k => ?_
      unfold farB at hb
      rw [rudderref13_Residues.l0, if_pos (by omega), if_pos (by omega), rd_nat]
      by_cases h1 : gx l i < -4294967296
      · rw [if_pos h1]
      · rw [if_neg h1, if_pos (by simp at hb; omega)]
    · have hb' : farB (gx l i) = false := by simpa using hb
      have := ih (i + 1) (by omega) (by omega) (fun j hlt2 => by
        rcases Nat.lt_succ_iff_lt_or_eq.1 hlt2 with h | h
        · exact hj j h
        · subst h; exact hb')
      refine Ev.step (fun k => ?_) this
      unfold farB at hb'
      simp at hb'
      rw [rudderref13_Residues.l0, if_pos (by omega), if_pos (by omega), rd_nat, if_neg (by omega), if_neg (by omega), w64 (by omega) (by omega)]
      rfl
theorem ev_refres (l : List Int) : Ev (fun k => rudderref13_Residues.f k l) (resOf l) := by
  have hno : ∀ (_ : ¬ farOk l = true), Ev (fun k => rudderref13_Residues.j0 k l true) (resOf l) := fun h => stop fun k => by
    rw [rudderref13_Residues.j0, if_pos rfl, resOf, if_neg h]
  unfold rudderref13_Residues.f
  by_cases h2 : (l.length : Int) < 2
  · simp only [if_pos h2]
    exact hno (by unfold farOk; simp; omega)
  · simp only [if_neg h2]
    by_cases h4 : (l.length : Int) > 4
    · rw [decide_eq_true h4]
      exact hno (by unfold farOk; simp; omega)
    · rw [decide_eq_false h4]
      refine Ev.step (fun k => ?_) (ev_refres0 l (by omega) (by omega) l.length 0 (by omega) (by omega) (fun j hj => by omega))
      rw [rudderref13_Residues.j0, if_neg (by simp)]
      rfl
theorem ev_refsus (l : List Int) (b : Int) (hb : -9223372036854775808 ≤ b ∧ b ≤ 9223372036854775807) : Ev (fun k => rudderref13_Suspect.f k l b) (suspI (resOf l) b) := by
  unfold rudderref13_Suspect.f
  refine Ev.bind (ev_refres l) ?_
  have hs := resOf_small l
  unfold suspI
  by_cases h : b < 0
  · rw [if_pos h]
    exact ev_refsusneg (resOf l) b h hs.1 (resOf l).length 0 (by omega) (by omega)
  · rw [if_neg h]
    have := ev_refsus0 (resOf l) b hb (by omega) hs.1 (resOf l).length 0 0 (-1) (-1) (by omega) (by omega) (by omega) (.inl ⟨rfl, rfl⟩)
    simpa using this
theorem alive13_some : rudderlaw13_alive.f 30 = some true := by decide +kernel
theorem ev_alive13 : Ev (fun k => rudderlaw13_alive.f k) true := Ev.of (fun k => rudderlaw13_alive.mono k) alive13_some
end Go.Proofs.Ytdhmefdnpiidbaa.Ref
