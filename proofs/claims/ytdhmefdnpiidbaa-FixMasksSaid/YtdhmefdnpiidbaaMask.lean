/- Masks as lists of bools; how many bits of a number of 16 bits are 1: plain mathematics. -/
import Derived.Below
namespace Go.Proofs.Ytdhmefdnpiidbaa.Mask
def maskL : List Bool → Nat
  | [] => 0
  | b :: bs => (if b = true then 1 else 0) + 2 * maskL bs
/-- How many of the last k bits are 1. -/
def pcn : Nat → Nat → Nat
  | 0, _ => 0
  | k + 1, n => n % 2 + pcn k (n / 2)
theorem maskL_snoc (xs : List Bool) (b : Bool) : maskL (xs ++ [b]) = maskL xs + (if b = true then 2 ^ xs.length else 0) := by
  induction xs with
  | nil => cases b <;> simp [maskL]
  | cons x xs ih =>
    simp only [List.cons_append, maskL, ih, List.length_cons, Nat.pow_succ]
    cases b <;> simp <;> omega
theorem maskL_lt (xs : List Bool) : maskL xs < 2 ^ xs.length := by
  induction xs with
  | nil => simp [maskL]
  | cons x xs ih =>
    simp only [maskL, List.length_cons, Nat.pow_succ]
    split <;> omega
theorem maskL_bit (xs : List Bool) : ∀ k, (maskL xs / 2 ^ k) % 2 = if xs.getD k false = true then 1 else 0 := by
  induction xs with
  | nil => intro k; simp [maskL]
  | cons x xs ih =>
    intro k
    cases k with
    | zero => cases x <;> simp [maskL] <;> omega
    | succ k =>
      have h : maskL (x :: xs) / 2 ^ (k + 1) = maskL xs / 2 ^ k := by
        rw [Nat.pow_succ, Nat.mul_comm, ← Nat.div_div_eq_div_mul]
        congr 1
        simp only [maskL]
        split <;> omega
      rw [h, ih k]
      simp
theorem pcn_mask (k : Nat) : ∀ (xs : List Bool), xs.length ≤ k → pcn k (maskL xs) = xs.countP id := by
  induction k with
  | zero => intro xs h; obtain rfl := List.eq_nil_of_length_eq_zero (by omega : xs.length = 0); rfl
  | succ k ih =>
    intro xs h
    cases xs with
    | nil => 
      have := ih [] (by simp)
      simp only [maskL] at this
      simp [pcn, maskL, this]
    | cons x xs =>
      have h1 : maskL (x :: xs) / 2 = maskL xs := by simp only [maskL]; split <;> omega
      have h2 : maskL (x :: xs) % 2 = if x = true then 1 else 0 := by simp only [maskL]; split <;> omega
      rw [pcn, h1, h2, ih xs (by simpa using h), List.countP_cons]
      cases x <;> simp <;> omega

/-- The count as math/bits reckons it, in natural numbers. -/
def ocA (n : Nat) : Nat := (n / 2 &&& 6148914691236517205) + (n &&& 6148914691236517205)
def ocB (n : Nat) : Nat := (n / 4 &&& 3689348814741910323) + (n &&& 3689348814741910323)
def ocC (n : Nat) : Nat := (n / 16 + n) &&& 1085102592571150095
def ocD (n : Nat) : Nat := n + n / 256
def ocE (n : Nat) : Nat := n + n / 65536
def ocF (n : Nat) : Nat := n + n / 4294967296
def oc (n : Nat) : Nat := ocF (ocE (ocD (ocC (ocB (ocA n))))) &&& 127
def chk1 (n : Nat) : Bool := Nat.beq (oc n) (pcn 16 n)
def chkTo : Nat → Nat → Bool
  | 0, _ => true
  | k + 1, n => chk1 n && chkTo k (n + 1)
theorem chkTo_of : ∀ k n, chkTo k n = true → ∀ j, j < k → chk1 (n + j) = true := by
  intro k
  induction k with
  | zero => intro n _ j hj; omega
  | succ k ih =>
    intro n h j hj
    simp only [chkTo, Bool.and_eq_true] at h
    cases j with
    | zero => exact h.1
    | succ j => have := ih (n + 1) h.2 j (by omega); rwa [show n + 1 + j = n + (j + 1) by omega] at this
def chkAll : Nat → Bool
  | 0 => true
  | b + 1 => chkTo 1024 (1024 * b) && chkAll b
theorem chkAll_of : ∀ b, chkAll b = true → ∀ n, n < 1024 * b → chk1 n = true := by
  intro b
  induction b with
  | zero => intro _ n hn; omega
  | succ b ih =>
    intro h n hn
    simp only [chkAll, Bool.and_eq_true] at h
    rcases Nat.lt_or_ge n (1024 * b) with h1 | h1
    · exact ih h.2 n h1
    · have := chkTo_of 1024 (1024 * b) h.1 (n - 1024 * b) (by omega)
      rwa [show 1024 * b + (n - 1024 * b) = n by omega] at this
set_option maxRecDepth 100000 in
theorem chk_all : chkAll 64 = true := by decide +kernel
theorem oc_pcn (n : Nat) (h : n < 65536) : oc n = pcn 16 n := Nat.eq_of_beq_eq_true (chkAll_of 64 chk_all n (by omega))
end Go.Proofs.Ytdhmefdnpiidbaa.Mask
