/- For each Go function named below: a Lean function with the same answers, and the proof that the call answers so wherever that function does; written by a program of this session (myprint.py) out of the translation. -/
import Derived.Test.YtdhmefdnpiidbaaPVoteBoundedx0
import Derived.Test.YtdhmefdnpiidbaaSho
namespace Go.Proofs.Ytdhmefdnpiidbaa.PVoteBounded
open Go.RowKit Go.Proofs.YtdhmefdnpiidbaaW.PrintWords Go.Proofs.YtdhmefdnpiidbaaW.PrintLast Go.Proofs.YtdhmefdnpiidbaaW.PrintMore Go.Proofs.Ytdhmefdnpiidbaa.Base Go.Proofs.Ytdhmefdnpiidbaa.Ord Go.Proofs.Ytdhmefdnpiidbaa.Vot Go.Proofs.Ytdhmefdnpiidbaa.PVoteMid Go.Proofs.Ytdhmefdnpiidbaa.Sho
attribute [local go_sem] max2_int min2_int max_two min_two max_three min_three max_four min_four   -- for this text's walks alone
set_option linter.unusedVariables false
set_option linter.unusedSimpArgs false

/-! ### rudderlaw12_VoteBounded: function 5 -/
mutual
def rudderlaw12_VoteBounded.l0 : Nat → Int → Int → List Int → List Int → Int → Int → Int → Int → Int → Int → Int → Int → Int → Int → Int → Int → Int → Int → Int → Option (Bool)
  | 0, _, _, _, _, _, _, _, _, _, _, _, _, _, _, _, _, _, _, _ => none
  | k + 1, x5, x6, x7, x8, x9, x102000, x102001, x102002, x103000, x103001, x103002, x103003, x103004, x103005, x103006, x103007, x103008, x103009, x103010 => if x9 < (wrap64 (2 + (wrap64 (Int.tmod x103010 2)))) then (if 0 ≤ x9 then (if x9 < 3 then (if x9 = 0 then (if (wrap64 ((wrap64 (x103002)) + 1)) = 0 then (none) else ((some (([wrap64 (x5 + (Int.tmod (wrap64 (x103003)) (wrap64 ((wrap64 (x103002)) + 1))))] : List Int) : List Int)).bind fun y103 => (if x7.length + y103.length < 17592186044416 then (if x9 < 4 then ((some (([wrap64 ((wrap64 (Int.tmod x103006 16)) + 1)] : List Int) : List Int)).bind fun y109 => (if x8.length + y109.length < 17592186044416 then (rudderlaw12_VoteBounded.l0 k x5 x6 (x7 ++ y103) (x8 ++ y109) (wrap64 (x9 + 1)) x102000 x102001 x102002 x103000 x103001 x103002 x103003 x103004 x103005 x103006 x103007 x103008 x103009 x103010) else (none))) else (none)) else (none)))) else (if x9 = 1 then (if (wrap64 ((wrap64 (x103002)) + 1)) = 0 then (none) else ((some (([wrap64 (x5 + (Int.tmod (wrap64 (x103004)) (wrap64 ((wrap64 (x103002)) + 1))))] : List Int) : List Int)).bind fun y115 => (if x7.length + y115.length < 17592186044416 then (if x9 < 4 then ((some (([wrap64 ((wrap64 (Int.tmod x103007 16)) + 1)] : List Int) : List Int)).bind fun y121 => (if x8.length + y121.length < 17592186044416 then (rudderlaw12_VoteBounded.l0 k x5 x6 (x7 ++ y115) (x8 ++ y121) (wrap64 (x9 + 1)) x102000 x102001 x102002 x103000 x103001 x103002 x103003 x103004 x103005 x103006 x103007 x103008 x103009 x103010) else (none))) else (none)) else (none)))) else (if x9 = 2 then (if (wrap64 ((wrap64 (x103002)) + 1)) = 0 then (none) else ((some (([wrap64 (x5 + (Int.tmod (wrap64 (x103005)) (wrap64 ((wrap64 (x103002)) + 1))))] : List Int) : List Int)).bind fun y127 => (if x7.length + y127.length < 17592186044416 then (if x9 < 4 then ((some (([wrap64 ((wrap64 (Int.tmod x103008 16)) + 1)] : List Int) : List Int)).bind fun y133 => (if x8.length + y133.length < 17592186044416 then (rudderlaw12_VoteBounded.l0 k x5 x6 (x7 ++ y127) (x8 ++ y133) (wrap64 (x9 + 1)) x102000 x102001 x102002 x103000 x103001 x103002 x103003 x103004 x103005 x103006 x103007 x103008 x103009 x103010) else (none))) else (none)) else (none)))) else (none)))) else (none)) else (none)) else (if (wrap64 ((x7.length : Int) + 1)) = 0 then (none) else ((some (([] : List Int) : List Int)).bind fun y139 => (if 0 ≤ (Int.tmod (wrap64 (x103010)) (wrap64 ((x7.length : Int) + 1))) then (if (Int.tmod (wrap64 (x103010)) (wrap64 ((x7.length : Int) + 1))) ≤ (x7.length : Int) then ((some (x7.take ((Int.tmod (wrap64 (x103010)) (wrap64 ((x7.length : Int) + 1))) : Int).toNat : List Int)).bind fun y142 => (if y139.length + y142.length < 17592186044416 then ((some (y139 ++ y142 : List Int)).bind fun y146 => ((some (([wrap64 (x103001)] : List Int) : List Int)).bind fun y149 => (if y146.length + y149.length < 17592186044416 then ((some (y146 ++ y149 : List Int)).bind fun y152 => ((some (x7.drop ((Int.tmod (wrap64 (x103010)) (wrap64 ((x7.length : Int) + 1))) : Int).toNat : List Int)).bind fun y155 => (if y152.length + y155.length < 17592186044416 then ((some (([] : List Int) : List Int)).bind fun y162 => (if (Int.tmod (wrap64 (x103010)) (wrap64 ((x7.length : Int) + 1))) ≤ (x8.length : Int) then ((some (x8.take ((Int.tmod (wrap64 (x103010)) (wrap64 ((x7.length : Int) + 1))) : Int).toNat : List Int)).bind fun y165 => (if y162.length + y165.length < 17592186044416 then ((some (y162 ++ y165 : List Int)).bind fun y169 => ((some (([wrap64 ((wrap64 (Int.tmod x103009 16)) + 1)] : List Int) : List Int)).bind fun y172 => (if y169.length + y172.length < 17592186044416 then ((some (y169 ++ y172 : List Int)).bind fun y175 => ((some (x8.drop ((Int.tmod (wrap64 (x103010)) (wrap64 ((x7.length : Int) + 1))) : Int).toNat : List Int)).bind fun y178 => (if y175.length + y178.length < 17592186044416 then ((vote_Vote.f x102000 x102001 x102002 (y152 ++ y155) (y175 ++ y178)).bind fun bt185 => ((vote_Right.f x102000 x102001 x102002).bind fun t187 => (if t187 = true then (if x5 ≥ x102000 then (if x5 ≤ x102001 then (rudderlaw12_VoteBounded.j1 k x5 x6 bt185.1 bt185.2 true x102000 x102001 x102002) else (if x6 ≥ x102000 then (rudderlaw12_VoteBounded.j1 k x5 x6 bt185.1 bt185.2 (decide (x6 ≤ x102001)) x102000 x102001 x102002) else (rudderlaw12_VoteBounded.j1 k x5 x6 bt185.1 bt185.2 false x102000 x102001 x102002))) else (if x6 ≥ x102000 then (rudderlaw12_VoteBounded.j1 k x5 x6 bt185.1 bt185.2 (decide (x6 ≤ x102001)) x102000 x102001 x102002) else (rudderlaw12_VoteBounded.j1 k x5 x6 bt185.1 bt185.2 false x102000 x102001 x102002))) else (rudderlaw12_VoteBounded.j1 k x5 x6 bt185.1 bt185.2 false x102000 x102001 x102002)))) else (none)))) else (none)))) else (none))) else (none))) else (none)))) else (none)))) else (none))) else (none)) else (none))))
def rudderlaw12_VoteBounded.j1 : Nat → Int → Int → Int → Bool → Bool → Int → Int → Int → Option (Bool)
  | 0, _, _, _, _, _, _, _, _ => none
  | k + 1, x5, x6, x14, x15, x16, x102000, x102001, x102002 => if x16 = true then ((rudderlaw12_alive.f).bind fun t188 => (if t188 = true then (if x15 = true then (if x14 ≥ (wrap64 (x5 - x102002)) then (if x14 ≤ (wrap64 (x6 + x102002)) then (if x14 ≥ x102000 then (some (decide (x14 ≤ x102001))) else (none)) else (none)) else (none)) else (none)) else (none))) else ((rudderlaw12_alive.f).bind fun t189 => (if t189 = true then ((vote_Right.f x102000 x102001 x102002).bind fun t190 => (some (x15 == t190))) else (none)))
end
def rudderlaw12_VoteBounded.f (k : Nat) (a0_0 : Int) (a0_1 : Int) (a0_2 : Int) (a1_0 : Int) (a1_1 : Int) (a1_2 : Int) (a1_3 : Int) (a1_4 : Int) (a1_5 : Int) (a1_6 : Int) (a1_7 : Int) (a1_8 : Int) (a1_9 : Int) (a1_10 : Int) : Option (Bool) := rudderlaw12_VoteBounded.l0 k (wrap64 (a1_0)) (wrap64 ((wrap64 (a1_0)) + (wrap64 (a1_2)))) ([] : List Int) ([] : List Int) 0 a0_0 a0_1 a0_2 a1_0 a1_1 a1_2 a1_3 a1_4 a1_5 a1_6 a1_7 a1_8 a1_9 a1_10
theorem rudderlaw12_VoteBounded.mono_l : ∀ k, (∀ y0 y1 y2 y3 y4 y5 y6 y7 y8 y9 y10 y11 y12 y13 y14 y15 y16 y17 y18, LeO (rudderlaw12_VoteBounded.l0 k y0 y1 y2 y3 y4 y5 y6 y7 y8 y9 y10 y11 y12 y13 y14 y15 y16 y17 y18) (rudderlaw12_VoteBounded.l0 (k + 1) y0 y1 y2 y3 y4 y5 y6 y7 y8 y9 y10 y11 y12 y13 y14 y15 y16 y17 y18)) ∧ (∀ y0 y1 y2 y3 y4 y5 y6 y7, LeO (rudderlaw12_VoteBounded.j1 k y0 y1 y2 y3 y4 y5 y6 y7) (rudderlaw12_VoteBounded.j1 (k + 1) y0 y1 y2 y3 y4 y5 y6 y7))
  | 0 => ⟨fun _ _ _ _ _ _ _ _ _ _ _ _ _ _ _ _ _ _ _ r h => by simp [rudderlaw12_VoteBounded.l0] at h, fun _ _ _ _ _ _ _ _ r h => by simp [rudderlaw12_VoteBounded.j1] at h⟩
  | k + 1 => by
    obtain ⟨ih0, ih1⟩ := rudderlaw12_VoteBounded.mono_l k
    refine ⟨?_, ?_⟩
    · intro y0 y1 y2 y3 y4 y5 y6 y7 y8 y9 y10 y11 y12 y13 y14 y15 y16 y17 y18
      unfold rudderlaw12_VoteBounded.l0
      repeat' first
      | (with_reducible exact ih0 _ _ _ _ _ _ _ _ _ _ _ _ _ _ _ _ _ _ _)
      | (with_reducible exact ih1 _ _ _ _ _ _ _ _)
      | (with_reducible exact LeO.refl _)
      | (with_reducible exact LeO.none _)
      | (with_reducible refine LeO.ite ?_ ?_)
      | (with_reducible refine LeO.bind ?_ (fun _ => ?_))
      | exact ih0 _ _ _ _ _ _ _ _ _ _ _ _ _ _ _ _ _ _ _
      | exact ih1 _ _ _ _ _ _ _ _
      | exact LeO.none _
      | refine LeO.ite ?_ ?_
      | refine LeO.bind ?_ (fun _ => ?_)
    · intro y0 y1 y2 y3 y4 y5 y6 y7
      unfold rudderlaw12_VoteBounded.j1
      repeat' first
      | (with_reducible exact ih0 _ _ _ _ _ _ _ _ _ _ _ _ _ _ _ _ _ _ _)
      | (with_reducible exact ih1 _ _ _ _ _ _ _ _)
      | (with_reducible exact LeO.refl _)
      | (with_reducible exact LeO.none _)
      | (with_reducible refine LeO.ite ?_ ?_)
      | (with_reducible refine LeO.bind ?_ (fun _ => ?_))
      | exact ih0 _ _ _ _ _ _ _ _ _ _ _ _ _ _ _ _ _ _ _
      | exact ih1 _ _ _ _ _ _ _ _
      | exact LeO.none _
      | refine LeO.ite ?_ ?_
      | refine LeO.bind ?_ (fun _ => ?_)
theorem rudderlaw12_VoteBounded.mono : ∀ a0 a1 a2 a3 a4 a5 a6 a7 a8 a9 a10 a11 a12 a13 k, LeO (rudderlaw12_VoteBounded.f k a0 a1 a2 a3 a4 a5 a6 a7 a8 a9 a10 a11 a12 a13) (rudderlaw12_VoteBounded.f (k + 1) a0 a1 a2 a3 a4 a5 a6 a7 a8 a9 a10 a11 a12 a13) := by
  intro a0 a1 a2 a3 a4 a5 a6 a7 a8 a9 a10 a11 a12 a13 k
  obtain ⟨ih0, ih1⟩ := rudderlaw12_VoteBounded.mono_l k
  unfold rudderlaw12_VoteBounded.f
  repeat' first
      | (with_reducible exact ih0 _ _ _ _ _ _ _ _ _ _ _ _ _ _ _ _ _ _ _)
      | (with_reducible exact ih1 _ _ _ _ _ _ _ _)
      | (with_reducible exact LeO.refl _)
      | (with_reducible exact LeO.none _)
      | (with_reducible refine LeO.ite ?_ ?_)
      | (with_reducible refine LeO.bind ?_ (fun _ => ?_))
      | exact ih0 _ _ _ _ _ _ _ _ _ _ _ _ _ _ _ _ _ _ _
      | exact ih1 _ _ _ _ _ _ _ _
      | exact LeO.none _
      | refine LeO.ite ?_ ?_
      | refine LeO.bind ?_ (fun _ => ?_)
end Go.Proofs.Ytdhmefdnpiidbaa.PVoteBounded
