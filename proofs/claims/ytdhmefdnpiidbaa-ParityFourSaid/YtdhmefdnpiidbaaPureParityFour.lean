/- One of four: of three numbers at most the bound apart and a fourth one in any place the fourth is the suspect if it is further than the bound outside all of them, and none is if all four are at most the bound apart. -/
import Derived.Test.YtdhmefdnpiidbaaPParityFourx1
import Derived.Test.YtdhmefdnpiidbaaRef13
import Derived.OpenShut
namespace Go.Proofs.Ytdhmefdnpiidbaa.Pure
open Go.RowKit Go.Proofs.Ytdhmefdnpiidbaa.PParityFour Go.Proofs.YtdhmefdnpiidbaaW.PrintWords Go.Proofs.YtdhmefdnpiidbaaW.PrintLast Go.Proofs.YtdhmefdnpiidbaaW.PrintMore
open Go.Proofs.Ytdhmefdnpiidbaa.Base Go.Proofs.Ytdhmefdnpiidbaa.Ord Go.Proofs.Ytdhmefdnpiidbaa.Par Go.Proofs.Ytdhmefdnpiidbaa.Par1 Go.Proofs.Ytdhmefdnpiidbaa.Ref
set_option linter.unusedVariables false

/-- The mid of three: between any two of them. -/
def m3 (x y z : Int) : Int := midI (sortI [x, y, z])
theorem m3_in (x y z : Int) : (x ≤ m3 x y z ∨ y ≤ m3 x y z) ∧ (m3 x y z ≤ x ∨ m3 x y z ≤ y) ∧ (x ≤ m3 x y z ∨ z ≤ m3 x y z) ∧ (m3 x y z ≤ x ∨ m3 x y z ≤ z) ∧ (y ≤ m3 x y z ∨ z ≤ m3 x y z) ∧ (m3 x y z ≤ y ∨ m3 x y z ≤ z) := by
  unfold m3 sortI
  simp only [List.foldr, insI]
  by_cases h1 : y ≤ z
  · rw [if_pos h1]
    unfold insI
    by_cases h2 : x ≤ y
    · rw [if_pos h2]; simp [midI, gx]; omega
    · rw [if_neg h2]; unfold insI
      by_cases h3 : x ≤ z
      · rw [if_pos h3]; simp [midI, gx]; omega
      · rw [if_neg h3]; simp [insI, midI, gx]; omega
  · rw [if_neg h1]
    unfold insI
    by_cases h2 : x ≤ z
    · rw [if_pos h2]; simp [midI, gx]; omega
    · rw [if_neg h2]; unfold insI
      by_cases h3 : x ≤ y
      · rw [if_pos h3]; simp [midI, gx]; omega
      · rw [if_neg h3]; simp [insI, midI, gx]; omega

theorem abs_le {n b : Int} : absI n ≤ b ↔ (-b ≤ n ∧ n ≤ b) := by unfold absI; split <;> omega
theorem res4 (p q r s : Int) (hp : -4294967296 ≤ p ∧ p ≤ 4294967296) (hq : -4294967296 ≤ q ∧ q ≤ 4294967296) (hr : -4294967296 ≤ r ∧ r ≤ 4294967296) (hs : -4294967296 ≤ s ∧ s ≤ 4294967296) :
    resOf [p, q, r, s] = [p - m3 q r s, q - m3 p r s, r - m3 p q s, s - m3 p q r] := by
  have hf : farOk [p, q, r, s] = true := by
    unfold farOk
    simp [farB]
    omega
  unfold resOf
  rw [if_pos hf]
  simp [resI, resAt, List.range, List.range.loop, gx, dropI, m3]

theorem sus_far (p q r o b : Int) (h0 : 0 ≤ b) (h : (p + b < o ∧ q + b < o ∧ r + b < o) ∨ (o < p - b ∧ o < q - b ∧ o < r - b))
    (hpq : p - q ≤ b ∧ q - p ≤ b) (hpr : p - r ≤ b ∧ r - p ≤ b) (hqr : q - r ≤ b ∧ r - q ≤ b) :
    ¬ absI (o - m3 p q r) ≤ b ∧ absI (p - m3 o q r) ≤ b ∧ absI (q - m3 p o r) ≤ b ∧ absI (r - m3 p q o) ≤ b ∧ absI (q - m3 o p r) ≤ b ∧ absI (r - m3 o p q) ≤ b ∧ absI (p - m3 q o r) ≤ b ∧ absI (r - m3 p o q) ≤ b ∧ absI (p - m3 q r o) ≤ b ∧ absI (q - m3 p r o) ≤ b := by
  simp only [abs_le]
  have a1 := m3_in p q r
  have a2 := m3_in o q r
  have a3 := m3_in p o r
  have a4 := m3_in p q o
  have a5 := m3_in o p r
  have a6 := m3_in o p q
  have a7 := m3_in q o r
  have a8 := m3_in p o q
  have a9 := m3_in q r o
  have a10 := m3_in p r o
  refine ⟨?_, ?_, ?_, ?_, ?_, ?_, ?_, ?_, ?_, ?_⟩
  · clear a2 a3 a4 a5 a6 a7 a8 a9 a10; omega
  · clear a1 a3 a4 a5 a6 a7 a8 a9 a10; omega
  · clear a1 a2 a4 a5 a6 a7 a8 a9 a10; omega
  · clear a1 a2 a3 a5 a6 a7 a8 a9 a10; omega
  · clear a1 a2 a3 a4 a6 a7 a8 a9 a10; omega
  · clear a1 a2 a3 a4 a5 a7 a8 a9 a10; omega
  · clear a1 a2 a3 a4 a5 a6 a8 a9 a10; omega
  · clear a1 a2 a3 a4 a5 a6 a7 a9 a10; omega
  · clear a1 a2 a3 a4 a5 a6 a7 a8 a10; omega
  · clear a1 a2 a3 a4 a5 a6 a7 a8 a9; omega
/-- One of four that are at most b apart is at most b from the mid of the others. -/
theorem near4 (x p q r b : Int) (hp : p - x ≤ b ∧ x - p ≤ b) (hq : q - x ≤ b ∧ x - q ≤ b) (hr : r - x ≤ b ∧ x - r ≤ b) : absI (x - m3 p q r) ≤ b := by
  rw [abs_le]
  have := m3_in p q r
  omega

/-- Where the odd one stands. -/
def put4 (p q r o : Int) : Nat → List Int
  | 0 => [o, p, q, r]
  | 1 => [p, o, q, r]
  | 2 => [p, q, o, r]
  | _ => [p, q, r, o]
theorem put4_eq (p q r o : Int) (k : Nat) (h : k < 4) : (([] : List Int) ++ [p, q, r].take k ++ [o]) ++ [p, q, r].drop k = put4 p q r o k := by
  match k, h with
  | 0, _ => rfl
  | 1, _ => rfl
  | 2, _ => rfl
  | 3, _ => rfl
theorem susp_far (p q r o b : Int) (k : Nat) (hk : k < 4) (hp : -4294967296 ≤ p ∧ p ≤ 4294967296) (hq : -4294967296 ≤ q ∧ q ≤ 4294967296) (hr : -4294967296 ≤ r ∧ r ≤ 4294967296) (ho : -4294967296 ≤ o ∧ o ≤ 4294967296)
    (h0 : 0 ≤ b) (h : (p + b < o ∧ q + b < o ∧ r + b < o) ∨ (o < p - b ∧ o < q - b ∧ o < r - b))
    (hpq : p - q ≤ b ∧ q - p ≤ b) (hpr : p - r ≤ b ∧ r - p ≤ b) (hqr : q - r ≤ b ∧ r - q ≤ b) : suspI (resOf (put4 p q r o k)) b = (k : Int) := by
  obtain ⟨e0, e1, e2, e3, e4, e5, e6, e7, e8, e9⟩ := sus_far p q r o b h0 h hpq hpr hqr
  have hb : ¬ b < 0 := by omega
  match k, hk with
  | 0, _ => simp only [put4]; rw [res4 _ _ _ _ ho hp hq hr]; simp [suspI, sus, hb, e0, e1, e4, e5]
  | 1, _ => simp only [put4]; rw [res4 _ _ _ _ hp ho hq hr]; simp [suspI, sus, hb, e0, e1, e2, e7]
  | 2, _ => simp only [put4]; rw [res4 _ _ _ _ hp hq ho hr]; simp [suspI, sus, hb, e0, e6, e2, e3]
  | 3, _ => simp only [put4]; rw [res4 _ _ _ _ hp hq hr ho]; simp [suspI, sus, hb, e0, e8, e9, e3]
theorem susp_near (p q r s b : Int) (hp : -4294967296 ≤ p ∧ p ≤ 4294967296) (hq : -4294967296 ≤ q ∧ q ≤ 4294967296) (hr : -4294967296 ≤ r ∧ r ≤ 4294967296) (hs : -4294967296 ≤ s ∧ s ≤ 4294967296)
    (hpq : p - q ≤ b ∧ q - p ≤ b) (hpr : p - r ≤ b ∧ r - p ≤ b) (hqr : q - r ≤ b ∧ r - q ≤ b) (hps : p - s ≤ b ∧ s - p ≤ b) (hqs : q - s ≤ b ∧ s - q ≤ b) (hrs : r - s ≤ b ∧ s - r ≤ b) : suspI (resOf [p, q, r, s]) b = -1 := by
  rw [res4 _ _ _ _ hp hq hr hs]
  have hb : ¬ b < 0 := by omega
  have e0 := near4 p q r s b ⟨by omega, by omega⟩ ⟨by omega, by omega⟩ ⟨by omega, by omega⟩
  have e1 := near4 q p r s b ⟨by omega, by omega⟩ ⟨by omega, by omega⟩ ⟨by omega, by omega⟩
  have e2 := near4 r p q s b ⟨by omega, by omega⟩ ⟨by omega, by omega⟩ ⟨by omega, by omega⟩
  have e3 := near4 s p q r b ⟨by omega, by omega⟩ ⟨by omega, by omega⟩ ⟨by omega, by omega⟩
  simp [suspI, sus, hb, e0, e1, e2, e3]
theorem susp_put (p q r o b : Int) (k : Nat) (hk : k < 4) (hp : -4294967296 ≤ p ∧ p ≤ 4294967296) (hq : -4294967296 ≤ q ∧ q ≤ 4294967296) (hr : -4294967296 ≤ r ∧ r ≤ 4294967296) (ho : -4294967296 ≤ o ∧ o ≤ 4294967296)
    (hpq : p - q ≤ b ∧ q - p ≤ b) (hpr : p - r ≤ b ∧ r - p ≤ b) (hqr : q - r ≤ b ∧ r - q ≤ b) (hpo : p - o ≤ b ∧ o - p ≤ b) (hqo : q - o ≤ b ∧ o - q ≤ b) (hro : r - o ≤ b ∧ o - r ≤ b) : suspI (resOf (put4 p q r o k)) b = -1 := by
  match k, hk with
  | 0, _ => exact susp_near _ _ _ _ _ ho hp hq hr (by omega) (by omega) (by omega) (by omega) (by omega) (by omega)
  | 1, _ => exact susp_near _ _ _ _ _ hp ho hq hr (by omega) (by omega) (by omega) (by omega) (by omega) (by omega)
  | 2, _ => exact susp_near _ _ _ _ _ hp hq ho hr (by omega) (by omega) (by omega) (by omega) (by omega) (by omega)
  | 3, _ => exact susp_near _ _ _ _ _ hp hq hr ho (by omega) (by omega) (by omega) (by omega) (by omega) (by omega)

theorem ev_four (top low b k o : Int) (l : List Int) (x : Bool) (hx : x = true → suspI (resOf l) b = k) (hy : x = false → wrap64 (mx o top - mn o low) ≤ b → suspI (resOf l) b = -1) :
    Ev (fun n => rudderlaw13_ParityFour.j0 n top low b k o l x) true := by
  refine Ev.step (fun n => by rw [rudderlaw13_ParityFour.j0]) ?_
  cases x with
  | true =>
    simp only [if_true]
    refine Ev.bind ev_alive13 ?_
    simp only [if_true]
    refine Ev.bind (ev_suspect l b) ?_
    rw [hx rfl]
    simp only [beq_self_eq_true]
    exact Ev.now _
  | false =>
    simp only [Bool.false_eq_true, if_false]
    by_cases hb : wrap64 (mx o top - mn o low) ≤ b
    · simp only [if_pos hb]
      refine Ev.bind ev_alive13 ?_
      simp only [if_true]
      refine Ev.bind (ev_suspect l b) ?_
      rw [hy rfl hb]
      simp only [beq_self_eq_true]
      exact Ev.now _
    · simp only [if_neg hb]
      exact Ev.bind ev_alive13 (Ev.now _)

set_option maxHeartbeats 4000000 in
theorem ParityFour (a b0 b1 b2 o t : Int) (ha : -2147483648 ≤ a ∧ a ≤ 2147483647) (h0 : 0 ≤ b0 ∧ b0 ≤ 65535) (h1 : 0 ≤ b1 ∧ b1 ≤ 65535) (h2 : 0 ≤ b2 ∧ b2 ≤ 65535) (ho : -2147483648 ≤ o ∧ o ≤ 2147483647) (ht : 0 ≤ t ∧ t ≤ 255) :
    ∃ k, rudderlaw13_ParityFour.f k a b0 b1 b2 o t = some true := by
  refine Ev.rounds (g := fun k => rudderlaw13_ParityFour.f k a b0 b1 b2 o t) ?_
  unfold rudderlaw13_ParityFour.f
  have hM : ∃ M, mx (mx b0 b1) b2 = M ∧ b0 ≤ M ∧ b1 ≤ M ∧ b2 ≤ M ∧ (M = b0 ∨ M = b1 ∨ M = b2) := ⟨_, rfl, by unfold mx; split <;> split <;> omega, by unfold mx; split <;> split <;> omega, by unfold mx; split <;> split <;> omega, by unfold mx; split <;> split <;> omega⟩
  have hN : ∃ N, mn (mn b0 b1) b2 = N ∧ N ≤ b0 ∧ N ≤ b1 ∧ N ≤ b2 ∧ (N = b0 ∨ N = b1 ∨ N = b2) := ⟨_, rfl, by unfold mn; split <;> split <;> omega, by unfold mn; split <;> split <;> omega, by unfold mn; split <;> split <;> omega, by unfold mn; split <;> split <;> omega⟩
  obtain ⟨M, eM, m0, m1, m2, hM⟩ := hM
  obtain ⟨N, eN, n0, n1, n2, hN⟩ := hN
  have wa : wrap64 a = a := w64 (by omega) (by omega)
  have w0 : wrap64 b0 = b0 := w64 (by omega) (by omega)
  have w1 : wrap64 b1 = b1 := w64 (by omega) (by omega)
  have w2 : wrap64 b2 = b2 := w64 (by omega) (by omega)
  have wo : wrap64 o = o := w64 (by omega) (by omega)
  have wt : wrap64 t = t := w64 (by omega) (by omega)
  have s0 : wrap64 (a + b0) = a + b0 := w64 (by omega) (by omega)
  have s1 : wrap64 (a + b1) = a + b1 := w64 (by omega) (by omega)
  have s2 : wrap64 (a + b2) = a + b2 := w64 (by omega) (by omega)
  have sM : wrap64 (a + M) = a + M := w64 (by omega) (by omega)
  have sN : wrap64 (a + N) = a + N := w64 (by omega) (by omega)
  have sB : wrap64 (a + M - (a + N)) = M - N := by rw [w64 (by omega) (by omega)]; omega
  have sT : wrap64 (a + M + (M - N)) = a + M + (M - N) := w64 (by omega) (by omega)
  have sL : wrap64 (a + N - (M - N)) = a + N - (M - N) := w64 (by omega) (by omega)
  obtain ⟨k, ek, hk⟩ : ∃ k : Nat, Int.tmod t 4 = (k : Int) ∧ k < 4 := by
    refine ⟨(t % 4).toNat, ?_, by omega⟩
    rw [Int.tmod_eq_emod_of_nonneg ht.1]
    omega
  simp only [wa, w0, w1, w2, wo, wt, eM, eN, s0, s1, s2, sM, sN, sB, sT, sL, ek, Option.bind_some, Int.toNat_natCast]
  have l0 : ([a + b0, a + b1, a + b2].take k).length ≤ 3 := by simp; omega
  have l1 : ([a + b0, a + b1, a + b2].drop k).length ≤ 3 := by simp
  refine Ev.congr (f := fun n => if o > a + M + (M - N) then rudderlaw13_ParityFour.j0 n (a + M) (a + N) (M - N) (k : Int) o (put4 (a + b0) (a + b1) (a + b2) o k) true else rudderlaw13_ParityFour.j0 n (a + M) (a + N) (M - N) (k : Int) o (put4 (a + b0) (a + b1) (a + b2) o k) (decide (o < a + N - (M - N)))) (fun n => ?_) ?_
  · rw [if_pos (by omega), if_pos (by simp; omega)]
    simp only [List.length_append, List.length_nil, List.length_cons]
    rw [if_pos (by omega), if_pos (by omega), if_pos (by omega), put4_eq _ _ _ _ k hk]
  have fine : ∀ x : Bool, (x = true → (o > a + M + (M - N) ∨ o < a + N - (M - N))) → (x = false → ¬ o > a + M + (M - N) ∧ ¬ o < a + N - (M - N)) →
      Ev (fun n => rudderlaw13_ParityFour.j0 n (a + M) (a + N) (M - N) (k : Int) o (put4 (a + b0) (a + b1) (a + b2) o k) x) true := by
    intro x hx hy
    refine ev_four _ _ _ _ _ _ x (fun e => ?_) (fun e hb => ?_)
    · have := hx e
      exact susp_far _ _ _ _ _ k hk ⟨by omega, by omega⟩ ⟨by omega, by omega⟩ ⟨by omega, by omega⟩ ⟨by omega, by omega⟩ (by omega) (by omega) ⟨by omega, by omega⟩ ⟨by omega, by omega⟩ ⟨by omega, by omega⟩
    · have hb2 : mx o (a + M) - mn o (a + N) ≤ M - N := by
        rwa [w64 (by unfold mx mn; split <;> split <;> omega) (by unfold mx mn; split <;> split <;> omega)] at hb
      have hc : o ≤ mx o (a + M) ∧ a + M ≤ mx o (a + M) ∧ mn o (a + N) ≤ o ∧ mn o (a + N) ≤ a + N := by unfold mx mn; split <;> split <;> omega
      exact susp_put _ _ _ _ _ k hk ⟨by omega, by omega⟩ ⟨by omega, by omega⟩ ⟨by omega, by omega⟩ ⟨by omega, by omega⟩ ⟨by omega, by omega⟩ ⟨by omega, by omega⟩ ⟨by omega, by omega⟩ ⟨by omega, by omega⟩ ⟨by omega, by omega⟩ ⟨by omega, by omega⟩
  by_cases hb : o > a + M + (M - N)
  · simp only [if_pos hb]
    exact fine true (fun _ => .inl hb) (fun h => by cases h)
  · simp only [if_neg hb]
    exact fine _ (fun h => .inr (of_decide_eq_true h)) (fun h => ⟨hb, of_decide_eq_false h⟩)
end Go.Proofs.Ytdhmefdnpiidbaa.Pure
