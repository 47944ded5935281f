/- Are two lists of numbers one? As a plain function. -/
import Derived.Test.YtdhmefdnpiidbaaBasex1
namespace Go.Proofs.Ytdhmefdnpiidbaa.IntsP
open Go.RowKit Go.Proofs.YtdhmefdnpiidbaaW.PrintWords Go.Proofs.YtdhmefdnpiidbaaW.PrintLast Go.Proofs.YtdhmefdnpiidbaaW.PrintMore
open Go.Proofs.Ytdhmefdnpiidbaa.Base

def gx (xs : List Int) (j : Nat) : Int := xs.getD j 0
theorem gx_lt (l : List Int) (i : Nat) (h : i < l.length) : l[i] = gx l i := by simp [gx, h]
theorem stop {α : Type} {g : Nat → Option α} {r : α} (h : ∀ k, g (k + 1) = some r) : Ev g r :=
  ⟨1, fun k hk => by obtain ⟨m, rfl⟩ : ∃ m, k = m + 1 := ⟨k - 1, by omega⟩; exact h m⟩
theorem w64 {x : Int} (h0 : -9223372036854775808 ≤ x) (h1 : x ≤ 9223372036854775807) : wrap64 x = x := by unfold wrap64; omega
theorem rd_nat (l : List Int) (i : Nat) : rd l (i : Int) = gx l i := by simp [rd, gx]
theorem drop_cons (l : List Int) (i : Nat) (h : i < l.length) : l.drop i = gx l i :: l.drop (i + 1) := by
  rw [List.drop_eq_getElem_cons h, gx_lt l i h]

theorem ev_ints0 (a b : List Int) (hl : a.length = b.length) (hm : a.length ≤ 140737488351232) (d : Nat) : ∀ i, i ≤ a.length → a.length - i = d →
    Ev (fun k => rudderref02_Ints.l0 k a b (i : Int)) (decide (a.drop i = b.drop i)) := by
  induction d with
  | zero =>
    intro i hi hd
    obtain rfl : i = a.length := by omega
    refine stop fun k => ?_
    rw [rudderref02_Ints.l0, if_neg (by omega)]
    simp [hl]
  | succ d ih =>
    intro i hi hd
    have hlt : i < a.length := by omega
    rw [drop_cons a i hlt, drop_cons b i (by omega)]
    by_cases e : gx a i = gx b i
    · refine Ev.step (f := fun k => rudderref02_Ints.l0 k a b ((i + 1 : Nat) : Int)) (fun k => ?_) ?_
      · rw [rudderref02_Ints.l0, if_pos (by omega), if_pos (by omega), if_pos (by omega), rd_nat, rd_nat, if_pos e, w64 (by omega) (by omega)]
        rfl
      · have := ih (i + 1) (by omega) (by omega)
        simpa [e] using this
    · refine stop fun k => ?_
      rw [rudderref02_Ints.l0, if_pos (by omega), if_pos (by omega), if_pos (by omega), rd_nat, rd_nat, if_neg e]
      simp [e]
theorem ev_ints (a b : List Int) (hm : a.length ≤ 140737488351232) : Ev (fun k => rudderref02_Ints.f k a b) (decide (a = b)) := by
  by_cases hl : a.length = b.length
  · refine Ev.congr (f := fun k => rudderref02_Ints.l0 k a b ((0 : Nat) : Int)) (fun k => ?_) ?_
    · rw [rudderref02_Ints.f, if_pos (by omega)]; rfl
    · simpa using ev_ints0 a b hl hm a.length 0 (by omega) (by omega)
  · refine Ev.congr (f := fun _ => some (decide (a = b))) (fun k => ?_) (Ev.now _)
    rw [rudderref02_Ints.f, if_neg (by omega)]
    simp only [Option.some.injEq]
    exact (decide_eq_false (fun e => hl (by rw [e]))).symm
end Go.Proofs.Ytdhmefdnpiidbaa.IntsP
