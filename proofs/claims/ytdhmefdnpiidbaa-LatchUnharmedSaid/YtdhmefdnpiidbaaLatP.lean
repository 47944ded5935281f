/- The plain law of a latch: its step, its run, and what becomes of calm cycles. -/
import Derived.Test.YtdhmefdnpiidbaaLatX
import Derived.Test.YtdhmefdnpiidbaaLatRx1
import Derived.Test.YtdhmefdnpiidbaaLatAx2
namespace Go.Proofs.Ytdhmefdnpiidbaa.Lat
open Go.RowKit Go.Proofs.YtdhmefdnpiidbaaW.PrintWords Go.Proofs.YtdhmefdnpiidbaaW.PrintLast Go.Proofs.YtdhmefdnpiidbaaW.PrintMore
open Go.Proofs.Ytdhmefdnpiidbaa.Base Go.Proofs.Ytdhmefdnpiidbaa.LatM Go.Proofs.Ytdhmefdnpiidbaa.LatR Go.Proofs.Ytdhmefdnpiidbaa.LatA
set_option linter.unusedVariables false
set_option linter.unusedSimpArgs false

theorem wrap_in (a : Int) (h : -9223372036854775808 ≤ a ∧ a ≤ 9223372036854775807) : wrap64 a = a := by unfold wrap64; omega

structure St where
  la : Bool
  ou : Bool
  st : Int
  cl : Int
  bk : Int

def RightR (L C B : Int) : Prop := 1 ≤ L ∧ L ≤ 100 ∧ 1 ≤ C ∧ C ≤ 1000 ∧ 0 ≤ B ∧ B ≤ 10
def FineS (L C B : Int) (s : St) : Prop :=
  if s.la = true then (if s.ou = true then s.st = L ∧ s.cl = 0 ∧ s.bk = B else s.st = L ∧ 0 ≤ s.cl ∧ s.cl < C ∧ 0 ≤ s.bk ∧ s.bk < B) else s.ou = false ∧ 0 ≤ s.st ∧ s.st < L ∧ s.cl = 0 ∧ 0 ≤ s.bk ∧ s.bk ≤ B
def stepN (L C B : Int) (s : St) (t : Bool) : St × Int :=
  if s.la = true then (if s.ou = true then (s, 0) else if t = true then (⟨true, false, s.st, 0, s.bk⟩, 0) else if s.cl + 1 = C then (⟨false, false, 0, 0, s.bk + 1⟩, 2) else (⟨true, false, s.st, s.cl + 1, s.bk⟩, 0))
  else if t = true then (if s.st + 1 < L then (⟨false, false, s.st + 1, s.cl, s.bk⟩, 0) else if s.bk = B then (⟨true, true, s.st + 1, s.cl, s.bk⟩, 3) else (⟨true, false, s.st + 1, s.cl, s.bk⟩, 1)) else (⟨false, false, 0, s.cl, s.bk⟩, 0)
def runN (L C B : Int) : St → List Bool → St × List Int
  | s, [] => (s, [])
  | s, t :: l => ((runN L C B (stepN L C B s t).1 l).1, (stepN L C B s t).2 :: (runN L C B (stepN L C B s t).1 l).2)

theorem right_yes {L C B : Int} (h : RightR L C B) : latch_Right.f L C B = some true := by
  unfold RightR at h
  unfold latch_Right.f latch_within.f
  rw [if_pos (by omega)]; simp only [Option.bind_some]
  rw [decide_eq_true (by omega), if_pos rfl, if_pos (by omega)]; simp only [Option.bind_some]
  rw [decide_eq_true (by omega), if_pos rfl, if_pos (by omega)]; simp only [Option.bind_some]
  rw [decide_eq_true (by omega)]
theorem right_some (L C B : Int) : latch_Right.f L C B = some true ∧ RightR L C B ∨ latch_Right.f L C B = some false := by
  by_cases h : RightR L C B
  · exact .inl ⟨right_yes h, h⟩
  · right
    unfold latch_Right.f latch_within.f
    unfold RightR at h
    by_cases a1 : L ≥ 1
    · rw [if_pos a1]; simp only [Option.bind_some]
      by_cases a2 : L ≤ 100
      · rw [decide_eq_true a2, if_pos rfl]
        by_cases a3 : C ≥ 1
        · rw [if_pos a3]; simp only [Option.bind_some]
          by_cases a4 : C ≤ 1000
          · rw [decide_eq_true a4, if_pos rfl]
            by_cases a5 : B ≥ 0
            · rw [if_pos a5]; simp only [Option.bind_some]
              rw [decide_eq_false (by omega)]
            · rw [if_neg a5]; rfl
          · rw [decide_eq_false a4]; rfl
        · rw [if_neg a3]; rfl
      · rw [decide_eq_false a2]; rfl
    · rw [if_neg a1]; rfl

theorem fine_yes {L C B : Int} {s : St} (hr : RightR L C B) (hf : FineS L C B s) : latch_Fine.f L C B s.la s.ou s.st s.cl s.bk = some true := by
  obtain ⟨la, ou, st, cl, bk⟩ := s
  unfold FineS at hf
  unfold RightR at hr
  unfold latch_Fine.f
  rw [right_yes hr]
  have e1 : wrap64 (L - 1) = L - 1 := wrap_in _ (by omega)
  have e2 : wrap64 (C - 1) = C - 1 := wrap_in _ (by omega)
  have e3 : wrap64 (B - 1) = B - 1 := wrap_in _ (by omega)
  simp only [Option.bind_some, if_true]
  cases la <;> cases ou <;> simp at hf
  · simp only [latch_in_fine.f, latch_within.f, e1]
    rw [if_pos (by omega)]; simp only [Option.bind_some]
    rw [decide_eq_true (by omega), if_pos rfl, if_pos (by omega), if_pos (by omega)]; simp only [Option.bind_some]
    rw [decide_eq_true (by omega)]
  · simp only [latch_latched_fine.f, latch_within.f, e2, e3]
    rw [if_pos (by omega), if_pos (by omega)]; simp only [Option.bind_some]
    rw [decide_eq_true (by omega), if_pos rfl, if_pos (by omega)]; simp only [Option.bind_some]
    rw [decide_eq_true (by omega)]
  · simp only [latch_out_fine.f]
    rw [if_pos (by omega), if_pos (by omega)]
    simp [hf.2.2]

theorem next_eq {L C B : Int} {s : St} (hr : RightR L C B) (hf : FineS L C B s) (t : Bool) :
    latch_Next.f L C B s.la s.ou s.st s.cl s.bk t = some ((stepN L C B s t).1.la, (stepN L C B s t).1.ou, (stepN L C B s t).1.st, (stepN L C B s t).1.cl, (stepN L C B s t).1.bk, (stepN L C B s t).2, 0) ∧ FineS L C B (stepN L C B s t).1 := by
  have h1 := fine_yes hr hf
  unfold latch_Next.f
  rw [h1]
  obtain ⟨la, ou, st, cl, bk⟩ := s
  unfold FineS at hf
  unfold RightR at hr
  simp only [Option.bind_some, if_true]
  cases la <;> cases ou <;> simp at hf
  · have e1 : wrap64 (st + 1) = st + 1 := wrap_in _ (by omega)
    simp only [latch_in_next.f, stepN, e1]
    cases t
    · simp [FineS]; omega
    · by_cases h2 : st + 1 < L
      · simp [h2, FineS]; omega
      · by_cases h3 : bk = B
        · simp [h2, h3, FineS]; omega
        · simp [h2, h3, FineS]; omega
  · have e1 : wrap64 (cl + 1) = cl + 1 := wrap_in _ (by omega)
    have e2 : wrap64 (bk + 1) = bk + 1 := wrap_in _ (by omega)
    simp only [latch_latched_next.f, stepN, e1, e2]
    cases t
    · by_cases h2 : cl + 1 = C
      · simp [h2, FineS]; omega
      · simp [h2, FineS]; omega
    · simp [FineS]; omega
  · simp [latch_out_next.f, stepN, FineS, hf]

theorem run_len (L C B : Int) : ∀ (l : List Bool) (s : St), (runN L C B s l).2.length = l.length
  | [], _ => rfl
  | t :: l, s => by simp only [runN, List.length_cons]; rw [run_len L C B l]
theorem run_fine {L C B : Int} (hr : RightR L C B) : ∀ (l : List Bool) (s : St), FineS L C B s → FineS L C B (runN L C B s l).1
  | [], _, h => h
  | t :: l, s, h => run_fine hr l _ (next_eq hr h t).2
theorem run_append (L C B : Int) : ∀ (l m : List Bool) (s : St), runN L C B s (l ++ m) = ((runN L C B (runN L C B s l).1 m).1, (runN L C B s l).2 ++ (runN L C B (runN L C B s l).1 m).2)
  | [], m, s => by simp [runN]
  | t :: l, m, s => by simp only [List.cons_append, runN]; rw [run_append L C B l m]

theorem run_loop {L C B : Int} (hr : RightR L C B) (l : List Bool) (hl : l.length ≤ 1000000) (d : Nat) : ∀ (i : Nat) (acc : List Int) (s : St), i + d = l.length → acc.length ≤ 1000000 + i → FineS L C B s →
    Ev (fun k => latch_Run.l0 k acc l (l.length : Int) i L C B s.la s.ou s.st s.cl s.bk) ((runN L C B s (l.drop i)).1.la, (runN L C B s (l.drop i)).1.ou, (runN L C B s (l.drop i)).1.st, (runN L C B s (l.drop i)).1.cl, (runN L C B s (l.drop i)).1.bk, acc ++ (runN L C B s (l.drop i)).2, 0) := by
  induction d with
  | zero =>
    intro i acc s hi ha hf
    refine Ev.step (f := fun _ => some _) (fun k => ?_) (Ev.now _)
    rw [latch_Run.l0, if_neg (by omega), List.drop_of_length_le (by omega)]
    simp [runN]
  | succ d ih =>
    intro i acc s hi ha hf
    have hlt : i < l.length := by omega
    obtain ⟨h1, h2⟩ := next_eq hr hf l[i]
    have hd : l.drop i = l[i] :: l.drop (i + 1) := List.drop_eq_getElem_cons hlt
    have hv : rdOf false l (i : Int) = l[i] := by simp [rdOf, hlt]
    have := ih (i + 1) (acc ++ [(stepN L C B s l[i]).2]) (stepN L C B s l[i]).1 (by omega) (by simp; omega) h2
    refine Ev.step (f := fun k => latch_Run.l0 k (acc ++ [(stepN L C B s l[i]).2]) l (l.length : Int) ((i + 1 : Nat) : Int) L C B (stepN L C B s l[i]).1.la (stepN L C B s l[i]).1.ou (stepN L C B s l[i]).1.st (stepN L C B s l[i]).1.cl (stepN L C B s l[i]).1.bk) (fun k => ?_) ?_
    · rw [latch_Run.l0, if_pos (by omega), if_pos (by omega), if_pos (by omega), hv, h1]
      simp only [Option.bind_some]
      rw [if_pos (by omega), wrap_in _ (by omega)]
      rfl
    · rw [hd]
      simp only [runN]
      rw [List.append_assoc] at this
      exact this

def St0 : St := ⟨false, false, 0, 0, 0⟩
theorem fine0 {L C B : Int} (hr : RightR L C B) : FineS L C B St0 := by unfold RightR at hr; simp [FineS, St0]; omega

theorem run_ev {L C B : Int} (hr : RightR L C B) (l : List Bool) (hl : l.length ≤ 1000000) :
    Ev (fun k => latch_Run.f k L C B l) ((runN L C B St0 l).1.la, (runN L C B St0 l).1.ou, (runN L C B St0 l).1.st, (runN L C B St0 l).1.cl, (runN L C B St0 l).1.bk, (runN L C B St0 l).2, 0) := by
  have := run_loop hr l hl l.length 0 [] St0 (by omega) (by simp) (fine0 hr)
  refine Ev.congr (fun k => ?_) this
  unfold latch_Run.f
  rw [right_yes hr]
  rfl

/-- Calm cycles. -/
theorem run_no {L C B : Int} (hr : RightR L C B) (n : Nat) : (runN L C B St0 (List.replicate n false)).1 = St0 := by
  induction n with
  | zero => rfl
  | succ n ih => simp only [List.replicate_succ, runN]; exact ih

def calmN (L : Int) : Int → List Bool → List Bool × Int
  | row, [] => ([], row)
  | row, t :: l => if t = true ∧ row + 1 < L then (true :: (calmN L (row + 1) l).1, (calmN L (row + 1) l).2) else (false :: (calmN L 0 l).1, (calmN L 0 l).2)
theorem calm_run {L C B : Int} (hr : RightR L C B) : ∀ (l : List Bool) (row : Int), 0 ≤ row → row < L → runN L C B ⟨false, false, row, 0, 0⟩ (calmN L row l).1 = (⟨false, false, (calmN L row l).2, 0, 0⟩, List.replicate l.length 0)
  | [], row, _, _ => rfl
  | t :: l, row, h0, h1 => by
    unfold RightR at hr
    simp only [calmN]
    by_cases h : t = true ∧ row + 1 < L
    · have := calm_run hr l (row + 1) (by omega) h.2
      rw [if_pos h]
      simp only [runN, stepN, List.length_cons, List.replicate_succ]
      simp [h.2, this]
    · have := calm_run hr l 0 (by omega) (by omega)
      rw [if_neg h]
      simp only [runN, stepN, List.length_cons, List.replicate_succ]
      simp [this]
theorem calm_len (L : Int) : ∀ (l : List Bool) (row : Int), (calmN L row l).1.length = l.length
  | [], _ => rfl
  | t :: l, row => by
    simp only [calmN]
    split <;> simp [calm_len L l]

/-- So many clean cycles: it is in, or out for good. -/
def Rested (s : St) : Prop := s.ou = true ∨ (s.la = false ∧ s.st = 0)
theorem rest_in {L C B : Int} (hr : RightR L C B) (n : Nat) : ∀ (bk cl : Int) (st : Int), 1 ≤ n ∨ st = 0 → Rested (runN L C B ⟨false, false, st, cl, bk⟩ (List.replicate n false)).1 := by
  induction n with
  | zero => intro bk cl st h; exact .inr ⟨rfl, by rcases h with h | h; omega; exact h⟩
  | succ n ih => intro bk cl st _; simp only [List.replicate_succ, runN, stepN]; exact ih bk cl 0 (.inr rfl)
theorem rest_out {L C B : Int} (n : Nat) : ∀ (s : St), s.la = true → s.ou = true → Rested (runN L C B s (List.replicate n false)).1 := by
  induction n with
  | zero => intro s _ h; exact .inl h
  | succ n ih =>
    intro s h1 h2
    simp only [List.replicate_succ, runN]
    have : (stepN L C B s false).1 = s := by simp [stepN, h1, h2]
    rw [this]
    exact ih s h1 h2
theorem rest_latched {L C B : Int} (hr : RightR L C B) (n : Nat) : ∀ (st cl bk : Int), 0 ≤ cl → cl < C → C ≤ cl + n → Rested (runN L C B ⟨true, false, st, cl, bk⟩ (List.replicate n false)).1 := by
  induction n with
  | zero => intro st cl bk _ _ _; omega
  | succ n ih =>
    intro st cl bk h0 h1 h2
    simp only [List.replicate_succ, runN, stepN]
    by_cases h : cl + 1 = C
    · simp [h]
      exact rest_in hr n _ _ 0 (.inr rfl)
    · simp [h]
      exact ih st (cl + 1) bk (by omega) (by omega) (by push_cast at h2; omega)
theorem rested {L C B : Int} (hr : RightR L C B) (s : St) (hf : FineS L C B s) (n : Nat) (hn : C ≤ n) : Rested (runN L C B s (List.replicate n false)).1 := by
  have hr' := hr
  unfold RightR at hr'
  obtain ⟨la, ou, st, cl, bk⟩ := s
  unfold FineS at hf
  cases la <;> cases ou <;> simp at hf
  · exact rest_in hr n bk cl st (.inl (by omega))
  · exact rest_latched hr n st cl bk (by omega) (by omega) (by omega)
  · exact rest_out n _ rfl rfl
end Go.Proofs.Ytdhmefdnpiidbaa.Lat
