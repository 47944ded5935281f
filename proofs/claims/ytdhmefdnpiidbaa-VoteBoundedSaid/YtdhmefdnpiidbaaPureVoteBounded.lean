/- The plain law VoteBounded: of two or three values between two numbers, and one more, the vote is at most the clip outside those numbers, and in the range. -/
import Derived.Test.YtdhmefdnpiidbaaPVoteBoundedx3
import Derived.Test.YtdhmefdnpiidbaaPureVoteMid
namespace Go.Proofs.Ytdhmefdnpiidbaa.Pure
open Go.RowKit Go.Proofs.YtdhmefdnpiidbaaW.PrintWords Go.Proofs.YtdhmefdnpiidbaaW.PrintMore Go.Proofs.YtdhmefdnpiidbaaW.PrintLast
open Go.Proofs.Ytdhmefdnpiidbaa.Base Go.Proofs.Ytdhmefdnpiidbaa.Ord Go.Proofs.Ytdhmefdnpiidbaa.Vot Go.Proofs.Ytdhmefdnpiidbaa.PVoteMid Go.Proofs.Ytdhmefdnpiidbaa.PVoteBounded
set_option linter.unusedVariables false
set_option linter.unusedSimpArgs false

theorem midst2 (a b x : Int) (h : a ≤ b) : a ≤ midI (insI x [a, b]) ∧ midI (insI x [a, b]) ≤ b := by
  unfold insI
  split
  · simp [midI, gx]; omega
  · unfold insI
    split
    · simp [midI, gx]; omega
    · simp [insI, midI, gx]; omega
theorem midst3 (a b c x : Int) (h : a ≤ b) (h2 : b ≤ c) : a ≤ midI (insI x [a, b, c]) ∧ midI (insI x [a, b, c]) ≤ c := by
  unfold insI
  split
  · simp [midI, gx]; omega
  · unfold insI
    split
    · simp [midI, gx]; omega
    · unfold insI
      split
      · simp [midI, gx]; omega
      · simp [insI, midI, gx]; omega
theorem midst (l : List Int) (x A B : Int) (h : l.length = 2 ∨ l.length = 3) (hb : ∀ y ∈ l, A ≤ y ∧ y ≤ B) : A ≤ midI (sortI (x :: l)) ∧ midI (sortI (x :: l)) ≤ B := by
  have e : sortI (x :: l) = insI x (sortI l) := rfl
  rw [e]
  have hs : ∀ y ∈ sortI l, A ≤ y ∧ y ≤ B := fun y hy => hb y ((sortI_perm l).mem_iff.1 hy)
  have hlen := sortI_length l
  have ha := sortI_asc l
  generalize sortI l = s at *
  rcases h with h | h
  · rw [h] at hlen
    match s, hlen with
    | [a, b], _ =>
      have h1 : a ≤ b := by simpa [Asc] using ha
      have := midst2 a b x h1
      have p := hs a (by simp)
      have q := hs b (by simp)
      omega
  · rw [h] at hlen
    match s, hlen with
    | [a, b, c], _ =>
      have h1 : (a ≤ b ∧ a ≤ c) ∧ b ≤ c := by simpa [Asc] using ha
      have := midst3 a b c x h1.1.1 h1.2
      have p := hs a (by simp)
      have q := hs c (by simp)
      omega

/-- The list with one more put in somewhere. -/
theorem put_perm {α : Type} (l : List α) (k : Nat) (x : α) : (([] ++ l.take k ++ [x]) ++ l.drop k).Perm (x :: l) := by
  have : (([] ++ l.take k ++ [x]) ++ l.drop k) = l.take k ++ x :: l.drop k := by simp
  rw [this]
  refine List.perm_middle.trans ?_
  rw [List.take_append_drop]
theorem put_zip {α β : Type} (l : List α) (m : List β) (k : Nat) (x : α) (y : β) (h : l.length = m.length) : (([] ++ l.take k ++ [x]) ++ l.drop k).zip (([] ++ m.take k ++ [y]) ++ m.drop k) = ([] ++ (l.zip m).take k ++ [(x, y)]) ++ (l.zip m).drop k := by
  rw [List.zip_append (by simp [h]), List.zip_append (by simp [h])]
  simp [List.zip, List.take_zipWith, List.drop_zipWith]

/-- The vote of some values between two numbers and one more, with any weights. -/
theorem bounded (Lo Hi Clip lo hi odd wo : Int) (l m : List Int) (k : Nat) (hl : l.length = 2 ∨ l.length = 3) (hm : m.length = l.length) (hb : ∀ y ∈ l, lo ≤ y ∧ y ≤ hi) (hw : ∀ y ∈ m, 1 ≤ y ∧ y ≤ 16)
    (h1 : -4294967296 ≤ lo ∧ hi ≤ 4294967296) (h2 : -4294967296 ≤ odd ∧ odd ≤ 4294967296) (h3 : 1 ≤ wo ∧ wo ≤ 16) :
    voteB Lo Hi Clip (([] ++ l.take k ++ [odd]) ++ l.drop k) (([] ++ m.take k ++ [wo]) ++ m.drop k) = rightB Lo Hi Clip ∧
    (rightB Lo Hi Clip = true → (lo ≤ Hi ∧ Lo ≤ hi) → lo - Clip ≤ voteI Lo Hi Clip (([] ++ l.take k ++ [odd]) ++ l.drop k) (([] ++ m.take k ++ [wo]) ++ m.drop k) ∧ voteI Lo Hi Clip (([] ++ l.take k ++ [odd]) ++ l.drop k) (([] ++ m.take k ++ [wo]) ++ m.drop k) ≤ hi + Clip) := by
  have hp := put_perm l k odd
  have hz := put_zip l m k odd wo hm.symm
  have hpz := put_perm (l.zip m) k (odd, wo)
  have hmid : lo ≤ midI (sortI (([] ++ l.take k ++ [odd]) ++ l.drop k)) ∧ midI (sortI (([] ++ l.take k ++ [odd]) ++ l.drop k)) ≤ hi := by
    rw [mid_perm hp]; exact midst l odd lo hi hl hb
  have hlen : (([] ++ l.take k ++ [odd]) ++ l.drop k).length = l.length + 1 := by rw [hp.length_eq]; simp
  have hlen2 : (([] ++ m.take k ++ [wo]) ++ m.drop k).length = m.length + 1 := by rw [(put_perm m k wo).length_eq]; simp
  have hgood : ((([] ++ l.take k ++ [odd]) ++ l.drop k).zip (([] ++ m.take k ++ [wo]) ++ m.drop k)).all goodP = true := by
    rw [hz, List.all_eq_true]
    intro x hx
    have hx' := hpz.mem_iff.1 hx
    rcases List.mem_cons.1 hx' with rfl | hx'
    · simp [goodP]; omega
    · obtain ⟨p, q⟩ := List.of_mem_zip (show (x.1, x.2) ∈ _ from hx')
      have := hb _ p
      have := hw _ q
      simp [goodP]; omega
  have hok : midB (([] ++ l.take k ++ [odd]) ++ l.drop k) = true := by
    simp only [midB, okB, Bool.and_eq_true, decide_eq_true_eq, Bool.not_eq_true', List.any_eq_false, hlen]
    refine ⟨⟨⟨by omega, fun x hx => ?_⟩, by omega⟩, by omega⟩
    rcases List.mem_cons.1 (hp.mem_iff.1 hx) with rfl | hx'
    · simp [bigB]; omega
    · have := hb _ hx'
      simp [bigB]; omega
  have hv : voteB Lo Hi Clip (([] ++ l.take k ++ [odd]) ++ l.drop k) (([] ++ m.take k ++ [wo]) ++ m.drop k) = rightB Lo Hi Clip := by
    unfold voteB
    rw [hok, hgood, hlen, hlen2, hm]
    simp
  refine ⟨hv, fun hr ht => ?_⟩
  have hr' := right_spec hr
  rw [hr] at hv
  exact vote_in hv (by omega) (by omega) fun x _ => by
    have := clamp_near x (midI (sortI (([] ++ l.take k ++ [odd]) ++ l.drop k))) Clip (by omega)
    omega

theorem tmod_in {a b : Int} (ha : 0 ≤ a) (hb : 0 < b) : 0 ≤ Int.tmod a b ∧ Int.tmod a b < b := ⟨Int.tmod_nonneg _ ha, Int.tmod_lt_of_pos _ hb⟩

section
variable {Lo Hi Clip f0 f1 f2 f3 f4 f5 f6 f7 f8 f9 f10 : Int}
def valB (f0 f2 a : Int) : Int := f0 + Int.tmod a (f2 + 1)
def weiB (a : Int) : Int := Int.tmod a 16 + 1
theorem valB_in (h2 : 0 ≤ f2) {a : Int} (ha : 0 ≤ a) : f0 ≤ valB f0 f2 a ∧ valB f0 f2 a ≤ f0 + f2 := by
  have := tmod_in ha (show 0 < f2 + 1 by omega)
  unfold valB; omega
theorem weiB_in {a : Int} (ha : 0 ≤ a) : 1 ≤ weiB a ∧ weiB a ≤ 16 := by
  have := tmod_in ha (show (0 : Int) < 16 by omega)
  unfold weiB; omega

/-- The end: one more is put in, and the vote is taken. -/
theorem ev_last (n : Int) (xs ws : List Int) (K : Nat) (h0 : -2147483648 ≤ f0 ∧ f0 ≤ 2147483647) (h1 : -2147483648 ≤ f1 ∧ f1 ≤ 2147483647) (h2 : 0 ≤ f2 ∧ f2 ≤ 65535) (h9 : 0 ≤ f9 ∧ f9 ≤ 255) (h10 : 0 ≤ f10 ∧ f10 ≤ 255)
    (hl : xs.length = 2 ∨ xs.length = 3) (hm : ws.length = xs.length) (hb : ∀ y ∈ xs, f0 ≤ y ∧ y ≤ f0 + f2) (hw : ∀ y ∈ ws, 1 ≤ y ∧ y ≤ 16) (hn : ¬ n < 2 + Int.tmod f10 2) :
    rudderlaw12_VoteBounded.l0 (K + 2) f0 (f0 + f2) xs ws n Lo Hi Clip f0 f1 f2 f3 f4 f5 f6 f7 f8 f9 f10 = some true := by
  have t2 := tmod_in h10.1 (show (0 : Int) < 2 by omega)
  have t9 := tmod_in h9.1 (show (0 : Int) < 16 by omega)
  have tk := tmod_in h10.1 (show (0 : Int) < (xs.length : Int) + 1 by omega)
  have q1 : -9223372036854775808 ≤ f10 ∧ f10 ≤ 9223372036854775807 := by omega
  have q2 : -9223372036854775808 ≤ f1 ∧ f1 ≤ 9223372036854775807 := by omega
  have q3 : -9223372036854775808 ≤ Int.tmod f10 2 ∧ Int.tmod f10 2 ≤ 9223372036854775807 := by omega
  have q4 : -9223372036854775808 ≤ (xs.length : Int) + 1 ∧ (xs.length : Int) + 1 ≤ 9223372036854775807 := by omega
  have q5 : -9223372036854775808 ≤ Int.tmod f9 16 ∧ Int.tmod f9 16 ≤ 9223372036854775807 := by omega
  have q6 : -9223372036854775808 ≤ Int.tmod f9 16 + 1 ∧ Int.tmod f9 16 + 1 ≤ 9223372036854775807 := by omega
  have q7 : -9223372036854775808 ≤ 2 + Int.tmod f10 2 ∧ 2 + Int.tmod f10 2 ≤ 9223372036854775807 := by omega
  have q8 : ¬ (xs.length : Int) + 1 = 0 := by omega
  have q9 : 0 ≤ Int.tmod f10 ((xs.length : Int) + 1) := tk.1
  have q10 : Int.tmod f10 ((xs.length : Int) + 1) ≤ (xs.length : Int) := by omega
  have q11 : Int.tmod f10 ((xs.length : Int) + 1) ≤ (ws.length : Int) := by omega
  have al : rudderlaw12_alive.f = some true := alive_VoteMid
  rw [rudderlaw12_VoteBounded.l0, wrap_fits _ q3, wrap_fits _ q7, if_neg hn, wrap_fits _ q4, wrap_fits _ q1, wrap_fits _ q2, wrap_fits _ q5, wrap_fits _ q6, if_neg q8]
  have hk : ∃ k : Nat, Int.tmod f10 ((xs.length : Int) + 1) = k ∧ k ≤ xs.length := by
    obtain ⟨k, hk⟩ := Int.eq_ofNat_of_zero_le q9
    exact ⟨k, hk, by omega⟩
  obtain ⟨k, hk, hk1⟩ := hk
  rw [hk] at q9 q10 q11 ⊢
  have hB := bounded Lo Hi Clip f0 (f0 + f2) f1 (weiB f9) xs ws k hl hm hb hw (by omega) (by omega) (weiB_in h9.1)
  have s1 : xs.length < 100 := by omega
  have s2 : ws.length < 100 := by omega
  clear q1 q2 q3 q4 q5 q6 q7 q8 tk t9 t2
  simp only [Int.toNat_natCast, Option.bind_some]
  have z1 : ([] : List Int).length + (xs.take k).length < 17592186044416 := by simp; omega
  have z2 : ([] ++ xs.take k).length + [f1].length < 17592186044416 := by simp; omega
  have z3 : ([] ++ xs.take k ++ [f1]).length + (xs.drop k).length < 17592186044416 := by simp; omega
  have z4 : ([] : List Int).length + (ws.take k).length < 17592186044416 := by simp; omega
  have z5 : ([] ++ ws.take k).length + [Int.tmod f9 16 + 1].length < 17592186044416 := by simp; omega
  have z6 : ([] ++ ws.take k ++ [Int.tmod f9 16 + 1]).length + (ws.drop k).length < 17592186044416 := by simp; omega
  rw [if_pos q9, if_pos q10, if_pos z1, if_pos z2, if_pos z3, if_pos q11, if_pos z4, if_pos z5, if_pos z6, right_f]
  clear z1 z2 z3 z4 z5 z6
  change ((vote_Vote.f Lo Hi Clip ([] ++ List.take k xs ++ [f1] ++ List.drop k xs) ([] ++ List.take k ws ++ [weiB f9] ++ List.drop k ws)).bind _) = _
  unfold vote_Vote.f
  rw [hB.1]
  simp only [Option.bind_some]
  cases hr : rightB Lo Hi Clip with
  | false =>
    simp only [Bool.false_eq_true, if_false]
    rw [rudderlaw12_VoteBounded.j1, if_neg (by simp), al, right_f, hr]
    rfl
  | true =>
    have hr' := right_spec hr
    have hv := hB.2 hr
    have hin := clampI_in (sumI (midI (sortI ([] ++ List.take k xs ++ [f1] ++ List.drop k xs))) Clip (([] ++ List.take k xs ++ [f1] ++ List.drop k xs).zip ([] ++ List.take k ws ++ [weiB f9] ++ List.drop k ws)) / totI (([] ++ List.take k xs ++ [f1] ++ List.drop k xs).zip ([] ++ List.take k ws ++ [weiB f9] ++ List.drop k ws))) Lo Hi hr'.2.2.2.2.1
    have hN : voteI Lo Hi Clip ([] ++ List.take k xs ++ [f1] ++ List.drop k xs) ([] ++ List.take k ws ++ [weiB f9] ++ List.drop k ws) = _ := rfl
    unfold voteI at hN
    rw [show clampI _ Lo Hi = voteI Lo Hi Clip ([] ++ List.take k xs ++ [f1] ++ List.drop k xs) ([] ++ List.take k ws ++ [weiB f9] ++ List.drop k ws) from rfl] at hin
    clear hN
    simp only [if_true]
    generalize voteI Lo Hi Clip ([] ++ List.take k xs ++ [f1] ++ List.drop k xs) ([] ++ List.take k ws ++ [weiB f9] ++ List.drop k ws) = v at hv hin ⊢
    have jt : (f0 ≤ Hi ∧ Lo ≤ f0 + f2) → rudderlaw12_VoteBounded.j1 (K + 1) f0 (f0 + f2) v true true Lo Hi Clip = some true := fun ht => by
      have := hv ht
      have y1 : -9223372036854775808 ≤ f0 - Clip ∧ f0 - Clip ≤ 9223372036854775807 := by omega
      have y2 : -9223372036854775808 ≤ f0 + f2 + Clip ∧ f0 + f2 + Clip ≤ 9223372036854775807 := by omega
      rw [rudderlaw12_VoteBounded.j1, if_pos rfl, al]
      simp only [Option.bind_some, if_true]
      rw [wrap_fits _ y1, wrap_fits _ y2, if_pos this.1, if_pos this.2, if_pos hin.1, decide_eq_true hin.2]
    have jf : rudderlaw12_VoteBounded.j1 (K + 1) f0 (f0 + f2) v true false Lo Hi Clip = some true := by
      rw [rudderlaw12_VoteBounded.j1, if_neg (by simp), al, right_f, hr]
      rfl
    have jb : rudderlaw12_VoteBounded.j1 (K + 1) f0 (f0 + f2) v true (decide (f0 + f2 ≤ Hi)) Lo Hi Clip = some true ∨ ¬ (f0 + f2 ≥ Lo) := by
      by_cases c : f0 + f2 ≥ Lo
      · left
        by_cases c2 : f0 + f2 ≤ Hi
        · rw [decide_eq_true c2]; exact jt (by omega)
        · rw [decide_eq_false c2]; exact jf
      · exact .inr c
    by_cases c1 : f0 ≥ Lo
    · rw [if_pos c1]
      by_cases c2 : f0 ≤ Hi
      · rw [if_pos c2]; exact jt (by omega)
      · rw [if_neg c2]
        rcases jb with h | h
        · by_cases c3 : f0 + f2 ≥ Lo
          · rw [if_pos c3]; exact h
          · rw [if_neg c3]; exact jf
        · rw [if_neg h]; exact jf
    · rw [if_neg c1]
      rcases jb with h | h
      · by_cases c3 : f0 + f2 ≥ Lo
        · rw [if_pos c3]; exact h
        · rw [if_neg c3]; exact jf
      · rw [if_neg h]; exact jf

theorem VoteBounded (Lo Hi Clip f0 f1 f2 f3 f4 f5 f6 f7 f8 f9 f10 : Int) (h0 : -2147483648 ≤ f0 ∧ f0 ≤ 2147483647) (h1 : -2147483648 ≤ f1 ∧ f1 ≤ 2147483647) (h2 : 0 ≤ f2 ∧ f2 ≤ 65535) (h3 : 0 ≤ f3 ∧ f3 ≤ 65535) (h4 : 0 ≤ f4 ∧ f4 ≤ 65535) (h5 : 0 ≤ f5 ∧ f5 ≤ 65535)
    (h6 : 0 ≤ f6 ∧ f6 ≤ 255) (h7 : 0 ≤ f7 ∧ f7 ≤ 255) (h8 : 0 ≤ f8 ∧ f8 ≤ 255) (h9 : 0 ≤ f9 ∧ f9 ≤ 255) (h10 : 0 ≤ f10 ∧ f10 ≤ 255) : ∃ k, rudderlaw12_VoteBounded.f k Lo Hi Clip f0 f1 f2 f3 f4 f5 f6 f7 f8 f9 f10 = some true := by
  refine ⟨5, ?_⟩
  have t2 := tmod_in h10.1 (show (0 : Int) < 2 by omega)
  have p1 : -9223372036854775808 ≤ Int.tmod f10 2 ∧ Int.tmod f10 2 ≤ 9223372036854775807 := by omega
  have p2 : -9223372036854775808 ≤ 2 + Int.tmod f10 2 ∧ 2 + Int.tmod f10 2 ≤ 9223372036854775807 := by omega
  have p3 : -9223372036854775808 ≤ f2 ∧ f2 ≤ 9223372036854775807 := by omega
  have p4 : -9223372036854775808 ≤ f2 + 1 ∧ f2 + 1 ≤ 9223372036854775807 := by omega
  have p5 : ¬ f2 + 1 = 0 := by omega
  have p6 : -9223372036854775808 ≤ f0 ∧ f0 ≤ 9223372036854775807 := by omega
  have p7 : -9223372036854775808 ≤ f0 + f2 ∧ f0 + f2 ≤ 9223372036854775807 := by omega
  have g0 : (0 : Int) < 2 + Int.tmod f10 2 := by omega
  have g1 : (1 : Int) < 2 + Int.tmod f10 2 := by omega
  have wv : ∀ a, 0 ≤ a → a ≤ 65535 → wrap64 (f0 + Int.tmod (wrap64 a) (f2 + 1)) = valB f0 f2 a := fun a ha hb => by
    have := tmod_in ha (show 0 < f2 + 1 by omega)
    have y1 : -9223372036854775808 ≤ a ∧ a ≤ 9223372036854775807 := by omega
    have y2 : -9223372036854775808 ≤ f0 + Int.tmod a (f2 + 1) ∧ f0 + Int.tmod a (f2 + 1) ≤ 9223372036854775807 := by omega
    rw [wrap_fits a y1, wrap_fits _ y2]; rfl
  have ww : ∀ a, 0 ≤ a → a ≤ 255 → wrap64 (wrap64 (Int.tmod a 16) + 1) = weiB a := fun a ha hb => by
    have := tmod_in ha (show (0 : Int) < 16 by omega)
    have y1 : -9223372036854775808 ≤ Int.tmod a 16 ∧ Int.tmod a 16 ≤ 9223372036854775807 := by omega
    have y2 : -9223372036854775808 ≤ Int.tmod a 16 + 1 ∧ Int.tmod a 16 + 1 ≤ 9223372036854775807 := by omega
    rw [wrap_fits _ y1, wrap_fits _ y2]; rfl
  have u1 : wrap64 (0 + 1) = 1 := by unfold wrap64; decide
  have u2 : wrap64 (1 + 1) = 2 := by unfold wrap64; decide
  have u3 : wrap64 (2 + 1) = 3 := by unfold wrap64; decide
  unfold rudderlaw12_VoteBounded.f
  rw [wrap_fits _ p6, wrap_fits _ p3, wrap_fits _ p7]
  have r0 : rudderlaw12_VoteBounded.l0 5 f0 (f0 + f2) [] [] 0 Lo Hi Clip f0 f1 f2 f3 f4 f5 f6 f7 f8 f9 f10 = rudderlaw12_VoteBounded.l0 4 f0 (f0 + f2) [valB f0 f2 f3] [weiB f6] 1 Lo Hi Clip f0 f1 f2 f3 f4 f5 f6 f7 f8 f9 f10 := by
    rw [rudderlaw12_VoteBounded.l0, wrap_fits _ p1, wrap_fits _ p2, if_pos g0, if_pos (show (0 : Int) ≤ 0 by decide), if_pos (show (0 : Int) < 3 by decide), if_pos rfl, wrap_fits _ p3, wrap_fits _ p4, if_neg p5, wv f3 h3.1 h3.2, ww f6 h6.1 h6.2]
    simp only [Option.bind_some]
    rw [if_pos (show _ by simp), if_pos (show (0 : Int) < 4 by decide), if_pos (show _ by simp), u1]
    rfl
  have r1 : rudderlaw12_VoteBounded.l0 4 f0 (f0 + f2) [valB f0 f2 f3] [weiB f6] 1 Lo Hi Clip f0 f1 f2 f3 f4 f5 f6 f7 f8 f9 f10 = rudderlaw12_VoteBounded.l0 3 f0 (f0 + f2) [valB f0 f2 f3, valB f0 f2 f4] [weiB f6, weiB f7] 2 Lo Hi Clip f0 f1 f2 f3 f4 f5 f6 f7 f8 f9 f10 := by
    rw [rudderlaw12_VoteBounded.l0, wrap_fits _ p1, wrap_fits _ p2, if_pos g1, if_pos (show (0 : Int) ≤ 1 by decide), if_pos (show (1 : Int) < 3 by decide), if_neg (show ¬ (1 : Int) = 0 by decide), if_pos rfl, wrap_fits _ p3, wrap_fits _ p4, if_neg p5, wv f4 h4.1 h4.2, ww f7 h7.1 h7.2]
    simp only [Option.bind_some]
    rw [if_pos (show _ by simp), if_pos (show (1 : Int) < 4 by decide), if_pos (show _ by simp), u2]
    rfl
  have r2 : (2 : Int) < 2 + Int.tmod f10 2 → rudderlaw12_VoteBounded.l0 3 f0 (f0 + f2) [valB f0 f2 f3, valB f0 f2 f4] [weiB f6, weiB f7] 2 Lo Hi Clip f0 f1 f2 f3 f4 f5 f6 f7 f8 f9 f10 = rudderlaw12_VoteBounded.l0 2 f0 (f0 + f2) [valB f0 f2 f3, valB f0 f2 f4, valB f0 f2 f5] [weiB f6, weiB f7, weiB f8] 3 Lo Hi Clip f0 f1 f2 f3 f4 f5 f6 f7 f8 f9 f10 := by
    intro g2
    rw [rudderlaw12_VoteBounded.l0, wrap_fits _ p1, wrap_fits _ p2, if_pos g2, if_pos (show (0 : Int) ≤ 2 by decide), if_pos (show (2 : Int) < 3 by decide), if_neg (show ¬ (2 : Int) = 0 by decide), if_neg (show ¬ (2 : Int) = 1 by decide), if_pos rfl, wrap_fits _ p3, wrap_fits _ p4, if_neg p5, wv f5 h5.1 h5.2, ww f8 h8.1 h8.2]
    simp only [Option.bind_some]
    rw [if_pos (show _ by simp), if_pos (show (2 : Int) < 4 by decide), if_pos (show _ by simp), u3]
    rfl
  rw [r0, r1]
  have v3 := valB_in (f0 := f0) h2.1 h3.1
  have v4 := valB_in (f0 := f0) h2.1 h4.1
  have v5 := valB_in (f0 := f0) h2.1 h5.1
  have e6 := weiB_in h6.1
  have e7 := weiB_in h7.1
  have e8 := weiB_in h8.1
  by_cases hN : (2 : Int) < 2 + Int.tmod f10 2
  · rw [r2 hN]
    refine ev_last 3 _ _ 0 h0 h1 h2 h9 h10 (.inr rfl) rfl ?_ ?_ ?_
    · intro y hy
      simp only [List.mem_cons, List.not_mem_nil, or_false] at hy
      rcases hy with rfl | rfl | rfl
      · exact v3
      · exact v4
      · exact v5
    · intro y hy
      simp only [List.mem_cons, List.not_mem_nil, or_false] at hy
      rcases hy with rfl | rfl | rfl
      · exact e6
      · exact e7
      · exact e8
    · clear r0 r1 r2 wv ww u1 u2 u3; omega
  · refine ev_last 2 _ _ 1 h0 h1 h2 h9 h10 (.inl rfl) rfl ?_ ?_ hN
    · intro y hy
      simp only [List.mem_cons, List.not_mem_nil, or_false] at hy
      rcases hy with rfl | rfl
      · exact v3
      · exact v4
    · intro y hy
      simp only [List.mem_cons, List.not_mem_nil, or_false] at hy
      rcases hy with rfl | rfl
      · exact e6
      · exact e7
end
end Go.Proofs.Ytdhmefdnpiidbaa.Pure
