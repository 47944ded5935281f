/- What the functions of layer 1 that speak of masks answer, as plain functions. -/
import Derived.Test.YtdhmefdnpiidbaaBasex3
import Derived.Test.YtdhmefdnpiidbaaBasex4
import Derived.Test.YtdhmefdnpiidbaaMask
namespace Go.Proofs.Ytdhmefdnpiidbaa.Ref
open Go.RowKit Go.Proofs.YtdhmefdnpiidbaaW.PrintWords Go.Proofs.YtdhmefdnpiidbaaW.PrintLast Go.Proofs.YtdhmefdnpiidbaaW.PrintMore
open Go.Proofs.Ytdhmefdnpiidbaa.Base Go.Proofs.Ytdhmefdnpiidbaa.Mask

theorem w64' {x : Int} (h0 : -9223372036854775808 ≤ x) (h1 : x ≤ 9223372036854775807) : wrap64 x = x := by unfold wrap64; omega
theorem stop' {α : Type} {g : Nat → Option α} {r : α} (h : ∀ k, g (k + 1) = some r) : Ev g r :=
  ⟨1, fun k hk => by obtain ⟨m, rfl⟩ : ∃ m, k = m + 1 := ⟨k - 1, by omega⟩; exact h m⟩

theorem wu64 (n : Nat) (h : n < 18446744073709551616) : IntKind.u64.wrap (n : Int) = n := by
  simp [IntKind.wrap, IntKind.bits, IntKind.signed]
  omega
theorem and_u64 (a b : Nat) (ha : a < 9223372036854775808) (hb : b < 9223372036854775808) : Go.bits .and .u64 (a : Int) (b : Int) = ((a &&& b : Nat) : Int) := by
  refine (bits_nat .u64 63 (by decide) (fun n h0 h1 => ?_) a b (by omega) (by omega)).1
  obtain ⟨m, rfl⟩ := Int.eq_ofNat_of_zero_le h0
  exact wu64 m (by omega)
theorem and_i64 (a b : Nat) (ha : a < 4611686018427387904) (hb : b < 4611686018427387904) : Go.bits .and .i64 (a : Int) (b : Int) = ((a &&& b : Nat) : Int) := by
  refine (bits_nat .i64 62 (by decide) (fun n h0 h1 => ?_) a b (by omega) (by omega)).1
  rw [IntKind.wrap_i64]
  omega
theorem or_i64 (a b : Nat) (ha : a < 4611686018427387904) (hb : b < 4611686018427387904) : Go.bits .or .i64 (a : Int) (b : Int) = ((a ||| b : Nat) : Int) := by
  refine (bits_nat .i64 62 (by decide) (fun n h0 h1 => ?_) a b (by omega) (by omega)).2
  rw [IntKind.wrap_i64]
  omega

def iA (x : Int) : Int := IntKind.u64.wrap ((Go.bits .and .u64 (x / 2) 6148914691236517205) + (Go.bits .and .u64 x 6148914691236517205))
def iB (x : Int) : Int := IntKind.u64.wrap ((Go.bits .and .u64 (x / 4) 3689348814741910323) + (Go.bits .and .u64 x 3689348814741910323))
def iC (x : Int) : Int := Go.bits .and .u64 (IntKind.u64.wrap ((x / 16) + x)) 1085102592571150095
def iD (x : Int) : Int := IntKind.u64.wrap (x + x / 256)
def iE (x : Int) : Int := IntKind.u64.wrap (x + x / 65536)
def iF (x : Int) : Int := IntKind.u64.wrap (x + x / 4294967296)
theorem ones_shape (x : Int) : bits_OnesCount64.f x = some (Go.bits .and .i64 (wrap64 (iF (iE (iD (iC (iB (iA x))))))) 127) := rfl
theorem iA_nat (n : Nat) (h : n < 65536) : iA n = ocA n ∧ ocA n < 131072 := by
  have h1 : (n / 2 &&& 6148914691236517205) ≤ n / 2 := Nat.and_le_left
  have h2 : (n &&& 6148914691236517205) ≤ n := Nat.and_le_left
  unfold iA ocA
  rw [show ((n : Int) / 2) = ((n / 2 : Nat) : Int) by omega, show (6148914691236517205 : Int) = ((6148914691236517205 : Nat) : Int) by rfl, and_u64 _ _ (by omega) (by omega), and_u64 _ _ (by omega) (by omega), ← Int.natCast_add, wu64 _ (by omega)]
  exact ⟨rfl, by omega⟩
theorem iB_nat (n : Nat) (h : n < 131072) : iB n = ocB n ∧ ocB n < 262144 := by
  have h1 : (n / 4 &&& 3689348814741910323) ≤ n / 4 := Nat.and_le_left
  have h2 : (n &&& 3689348814741910323) ≤ n := Nat.and_le_left
  unfold iB ocB
  rw [show ((n : Int) / 4) = ((n / 4 : Nat) : Int) by omega, show (3689348814741910323 : Int) = ((3689348814741910323 : Nat) : Int) by rfl, and_u64 _ _ (by omega) (by omega), and_u64 _ _ (by omega) (by omega), ← Int.natCast_add, wu64 _ (by omega)]
  exact ⟨rfl, by omega⟩
theorem iC_nat (n : Nat) (h : n < 262144) : iC n = ocC n ∧ ocC n < 524288 := by
  have h1 : ((n / 16 + n) &&& 1085102592571150095) ≤ n / 16 + n := Nat.and_le_left
  unfold iC ocC
  rw [show ((n : Int) / 16) = ((n / 16 : Nat) : Int) by omega, ← Int.natCast_add, wu64 _ (by omega), show (1085102592571150095 : Int) = ((1085102592571150095 : Nat) : Int) by rfl, and_u64 _ _ (by omega) (by omega)]
  exact ⟨rfl, by omega⟩
theorem iD_nat (n : Nat) (h : n < 524288) : iD n = ocD n ∧ ocD n < 1048576 := by
  unfold iD ocD
  rw [show ((n : Int) / 256) = ((n / 256 : Nat) : Int) by omega, ← Int.natCast_add, wu64 _ (by omega)]
  exact ⟨rfl, by omega⟩
theorem iE_nat (n : Nat) (h : n < 1048576) : iE n = ocE n ∧ ocE n < 2097152 := by
  unfold iE ocE
  rw [show ((n : Int) / 65536) = ((n / 65536 : Nat) : Int) by omega, ← Int.natCast_add, wu64 _ (by omega)]
  exact ⟨rfl, by omega⟩
theorem iF_nat (n : Nat) (h : n < 2097152) : iF n = ocF n ∧ ocF n < 4194304 := by
  unfold iF ocF
  rw [show ((n : Int) / 4294967296) = ((n / 4294967296 : Nat) : Int) by omega, ← Int.natCast_add, wu64 _ (by omega)]
  exact ⟨rfl, by omega⟩
theorem ones_nat (n : Nat) (h : n < 65536) : bits_OnesCount64.f n = some (pcn 16 n : Int) := by
  rw [ones_shape, (iA_nat n h).1]
  have hA := (iA_nat n h).2
  rw [(iB_nat _ hA).1]
  have hB := (iB_nat _ hA).2
  rw [(iC_nat _ hB).1]
  have hC := (iC_nat _ hB).2
  rw [(iD_nat _ hC).1]
  have hD := (iD_nat _ hC).2
  rw [(iE_nat _ hD).1]
  have hE := (iE_nat _ hD).2
  rw [(iF_nat _ hE).1]
  have hF := (iF_nat _ hE).2
  rw [w64' (by omega) (by omega), show (127 : Int) = ((127 : Nat) : Int) by rfl, and_i64 _ _ (by omega) (by omega), ← oc_pcn n h]
  rfl

theorem right_some (m : Int) : fix_right.f m = some (decide (0 ≤ m ∧ m < 65536)) := by
  unfold fix_right.f
  by_cases h : m ≥ 0
  · rw [if_pos h]; congr 1; exact decide_eq_decide.2 (by omega)
  · rw [if_neg h, decide_eq_false (by omega)]
def countI (m : Int) : Int := if 0 ≤ m ∧ m < 65536 then (pcn 16 m.toNat : Int) else 0
theorem count_some (m : Int) : fix_Count.f m = some (countI m) := by
  unfold fix_Count.f countI
  rw [right_some]
  simp only [Option.bind_some]
  by_cases h : 0 ≤ m ∧ m < 65536
  · obtain ⟨n, rfl⟩ := Int.eq_ofNat_of_zero_le h.1
    rw [if_pos (by simpa using h), if_pos h, wu64 n (by omega), bits_OnesCount.f, ones_nat n (by omega)]
    simp
  · rw [if_neg (by simpa using h), if_neg h]
def hasB (m i : Int) : Bool := decide (0 ≤ m ∧ m < 65536) && decide (0 ≤ i ∧ i < 16) && decide ((m.toNat / 2 ^ i.toNat) % 2 = 1)
theorem has_some (m i : Int) : fix_Has.f m i = some (hasB m i) := by
  unfold fix_Has.f hasB
  rw [right_some]
  simp only [Option.bind_some]
  by_cases h : 0 ≤ m ∧ m < 65536
  · rw [if_pos (by simpa using h)]
    by_cases h0 : i ≥ 0
    · by_cases h1 : i < 16
      · rw [if_pos h0, if_pos h1, if_pos h0]
        obtain ⟨n, rfl⟩ := Int.eq_ofNat_of_zero_le h.1
        obtain ⟨j, rfl⟩ := Int.eq_ofNat_of_zero_le h0
        have hs : shr .i64 (n : Int) (j : Int) = ((n / 2 ^ j : Nat) : Int) := by
          unfold shr
          rw [Int.toNat_natCast, Nat.min_eq_left (by simp [IntKind.bits]; omega)]
          simp
        have hle : n / 2 ^ j ≤ n := Nat.div_le_self _ _
        rw [hs, show (1 : Int) = ((1 : Nat) : Int) by rfl, and_i64 _ _ (by omega) (by omega), Nat.and_one_is_mod]
        rw [decide_eq_true h, decide_eq_true (show 0 ≤ (j : Int) ∧ (j : Int) < 16 by omega), Int.toNat_natCast, Int.toNat_natCast]
        generalize n / 2 ^ j = q
        congr 1
        rw [Bool.eq_iff_iff]
        simp
        omega
      · rw [if_pos h0, if_neg h1, decide_eq_false (show ¬ (0 ≤ i ∧ i < 16) by omega)]
        simp
    · rw [if_neg h0, decide_eq_false (show ¬ (0 ≤ i ∧ i < 16) by omega)]
      simp
  · rw [if_neg (by simpa using h), decide_eq_false h]
    simp
theorem ev_hasloop (j : Nat) (hj : j < 16) (d : Nat) : ∀ (n i : Nat), n < 65536 → i ≤ j → j - i = d → Ev (fun k => rudderref01_Has.l0 k (j : Int) (n : Int) (i : Int)) (decide ((n / 2 ^ d) % 2 = 1)) := by
  induction d with
  | zero =>
    intro n i hn hi hd
    refine stop' fun k => ?_
    rw [rudderref01_Has.l0, if_neg (by omega), Int.tmod_eq_emod_of_nonneg (by omega)]
    congr 1
    rw [Bool.eq_iff_iff]
    simp
    omega
  | succ d ih =>
    intro n i hn hi hd
    have h1 := ih (n / 2) (i + 1) (by omega) (by omega) (by omega)
    rw [Nat.div_div_eq_div_mul, Nat.mul_comm, ← Nat.pow_succ] at h1
    refine Ev.step (fun k => ?_) h1
    rw [rudderref01_Has.l0, if_pos (by omega), Int.tdiv_eq_ediv_of_nonneg (by omega), w64' (by omega) (by omega), w64' (by omega) (by omega)]
    congr 1
theorem ev_has (m i : Int) : Ev (fun k => rudderref01_Has.f k m i) (hasB m i) := by
  have hno : Ev (fun k => rudderref01_Has.j0 k m i true) false := stop' fun k => by rw [rudderref01_Has.j0, if_pos rfl]
  unfold rudderref01_Has.f hasB
  by_cases h0 : m < 0
  · simp only [if_pos h0]
    rw [decide_eq_false (show ¬ (0 ≤ m ∧ m < 65536) by omega)]
    simpa using hno
  · simp only [if_neg h0]
    by_cases h1 : m > 65535
    · simp only [if_pos h1]
      rw [decide_eq_false (show ¬ (0 ≤ m ∧ m < 65536) by omega)]
      simpa using hno
    · simp only [if_neg h1]
      rw [decide_eq_true (show 0 ≤ m ∧ m < 65536 by omega)]
      by_cases h2 : i < 0
      · simp only [if_pos h2]
        rw [decide_eq_false (show ¬ (0 ≤ i ∧ i < 16) by omega)]
        simpa using hno
      · simp only [if_neg h2]
        by_cases h3 : i > 15
        · rw [decide_eq_true h3, decide_eq_false (show ¬ (0 ≤ i ∧ i < 16) by omega)]
          simpa using hno
        · rw [decide_eq_false h3, decide_eq_true (show 0 ≤ i ∧ i < 16 by omega)]
          obtain ⟨n, rfl⟩ := Int.eq_ofNat_of_zero_le (show 0 ≤ m by omega)
          obtain ⟨j, rfl⟩ := Int.eq_ofNat_of_zero_le (show 0 ≤ i by omega)
          rw [Int.toNat_natCast, Int.toNat_natCast]
          have := ev_hasloop j (by omega) j n 0 (by omega) (by omega) (by omega)
          refine Ev.step (fun k => ?_) (by simpa using this)
          rw [rudderref01_Has.j0, if_neg (by simp)]
theorem ev_count0 (m : Int) (d : Nat) : ∀ (i : Nat) (c : Nat), i ≤ 16 → 16 - i = d → c ≤ i → Ev (fun k => rudderref01_Count.l0 k m (c : Int) (i : Int)) ((c : Int) + (if 0 ≤ m ∧ m < 65536 then (pcn d (m.toNat / 2 ^ i) : Int) else 0)) := by
  induction d with
  | zero =>
    intro i c hi hd hc
    refine stop' fun k => ?_
    rw [rudderref01_Count.l0, if_neg (by omega)]
    simp [pcn]
  | succ d ih =>
    intro i c hi hd hc
    have hh := ev_has m i
    have hb : hasB m i = (decide (0 ≤ m ∧ m < 65536) && decide ((m.toNat / 2 ^ i) % 2 = 1)) := by
      unfold hasB
      rw [decide_eq_true (show 0 ≤ (i : Int) ∧ (i : Int) < 16 by omega), Int.toNat_natCast]
      simp
    refine Ev.step (f := fun k => (rudderref01_Has.f k m i).bind fun t => if t = true then rudderref01_Count.l0 k m (wrap64 ((c : Int) + 1)) (wrap64 ((i : Int) + 1)) else rudderref01_Count.l0 k m (c : Int) (wrap64 ((i : Int) + 1))) (fun k => by rw [rudderref01_Count.l0, if_pos (by omega)]) ?_
    refine Ev.bind hh ?_
    rw [w64' (x := (c : Int) + 1) (by omega) (by omega), w64' (x := (i : Int) + 1) (by omega) (by omega)]
    by_cases h : 0 ≤ m ∧ m < 65536
    · rw [hb, decide_eq_true h, if_pos h]
      have e : m.toNat / 2 ^ i / 2 = m.toNat / 2 ^ (i + 1) := by rw [Nat.div_div_eq_div_mul, ← Nat.pow_succ]
      by_cases h1 : (m.toNat / 2 ^ i) % 2 = 1
      · have := ih (i + 1) (c + 1) (by omega) (by omega) (by omega)
        rw [if_pos h] at this
        simp only [h1, decide_true, Bool.and_self, if_true]
        rw [pcn, h1, e]
        refine Ev.congr (fun k => rfl) ?_
        have e2 : ((c + 1 : Nat) : Int) + (pcn d (m.toNat / 2 ^ (i + 1)) : Int) = (c : Int) + ((1 + pcn d (m.toNat / 2 ^ (i + 1)) : Nat) : Int) := by omega
        rw [← e2]
        exact this
      · have := ih (i + 1) c (by omega) (by omega) (by omega)
        rw [if_pos h] at this
        simp only [h1, decide_false, Bool.and_false]
        rw [pcn, show (m.toNat / 2 ^ i) % 2 = 0 by omega, e, Nat.zero_add]
        simpa using this
    · have := ih (i + 1) c (by omega) (by omega) (by omega)
      rw [if_neg h] at this
      rw [hb, decide_eq_false h, if_neg h]
      simpa using this
theorem ev_count (m : Int) : Ev (fun k => rudderref01_Count.f k m) (countI m) := by
  have := ev_count0 m 16 0 0 (by omega) (by omega) (by omega)
  unfold rudderref01_Count.f countI
  simpa using this
def bitsI (l : List Bool) : Int := if l.length ≤ 16 then (maskL l : Int) else 0
theorem take_bool (l : List Bool) (i : Nat) (h : i < l.length) : l.take (i + 1) = l.take i ++ [l.getD i false] := by
  rw [List.take_succ_eq_append_getElem h, List.getD_eq_getElem?_getD, List.getElem?_eq_getElem h]
  rfl
theorem ev_refbits0 (l : List Bool) (hl : l.length ≤ 16) (d : Nat) : ∀ (i : Nat), i ≤ l.length → l.length - i = d → Ev (fun k => rudderref01_Bits.l0 k l (maskL (l.take i) : Int) ((2 ^ i : Nat) : Int) (i : Int)) (maskL l : Int) := by
  induction d with
  | zero =>
    intro i hi hd
    obtain rfl : i = l.length := by omega
    refine stop' fun k => ?_
    rw [rudderref01_Bits.l0, if_neg (by omega), List.take_length]
  | succ d ih =>
    intro i hi hd
    have hlt : i < l.length := by omega
    have h1 := ih (i + 1) (by omega) (by omega)
    rw [take_bool l i hlt, maskL_snoc, List.length_take, Nat.min_eq_left (by omega)] at h1
    have hm : maskL (l.take i) < 2 ^ i := by have := maskL_lt (l.take i); rwa [List.length_take, Nat.min_eq_left (by omega)] at this
    have hp : 2 ^ i ≤ 2 ^ 16 := Nat.pow_le_pow_right (by omega) (by omega)
    refine Ev.step (fun k => ?_) h1
    rw [rudderref01_Bits.l0, if_pos (by omega), if_pos (by omega), w64' (x := 2 * ((2 ^ i : Nat) : Int)) (by omega) (by omega), w64' (x := (i : Int) + 1) (by omega) (by omega)]
    have e2 : (2 * ((2 ^ i : Nat) : Int)) = ((2 ^ (i + 1) : Nat) : Int) := by rw [Nat.pow_succ]; omega
    rw [e2]
    have e3 : rdOf false l (i : Int) = l.getD i false := by simp [rdOf]
    rw [e3]
    by_cases hb : l.getD i false = true
    · rw [if_pos hb, if_pos hb, w64' (by omega) (by omega)]
      rfl
    · rw [if_neg hb, if_neg hb]
      rfl
theorem ev_refbits (l : List Bool) : Ev (fun k => rudderref01_Bits.f k l) (bitsI l) := by
  unfold rudderref01_Bits.f bitsI
  by_cases h : (l.length : Int) > 16
  · simp only [if_pos h]
    rw [if_neg (by omega)]
    exact Ev.now _
  · simp only [if_neg h]
    rw [if_pos (by omega)]
    have := ev_refbits0 l (by omega) l.length 0 (by omega) (by omega)
    simpa [maskL] using this
theorem or_pow (m i : Nat) (h : m < 2 ^ i) (hi : i < 16) : Go.bits .or .i64 (m : Int) (shl .i64 1 (i : Int)) = ((m + 2 ^ i : Nat) : Int) := by
  have hp : 2 ^ i ≤ 2 ^ 15 := Nat.pow_le_pow_right (by omega) (by omega)
  have hs : shl .i64 1 (i : Int) = ((2 ^ i : Nat) : Int) := by
    unfold shl
    rw [Int.toNat_natCast, Nat.min_eq_left (by simp [IntKind.bits]; omega), IntKind.wrap_i64, Int.one_mul]
    have e : (2 : Int) ^ i = ((2 ^ i : Nat) : Int) := by simp
    rw [e]
    generalize 2 ^ i = q at *
    omega
  rw [hs, or_i64 _ _ (by omega) (by omega)]
  congr 1
  have := Nat.two_pow_add_eq_or_of_lt h 1
  rw [Nat.mul_one] at this
  rw [Nat.or_comm, ← this, Nat.add_comm]
theorem ev_bits0 (l : List Bool) (hl : l.length ≤ 16) (d : Nat) : ∀ (i : Nat), i ≤ l.length → l.length - i = d → Ev (fun k => fix_Bits.l0 k l (maskL (l.take i) : Int) (l.length : Int) (i : Int)) (maskL l : Int) := by
  induction d with
  | zero =>
    intro i hi hd
    obtain rfl : i = l.length := by omega
    refine stop' fun k => ?_
    rw [fix_Bits.l0, if_neg (by omega), List.take_length]
  | succ d ih =>
    intro i hi hd
    have hlt : i < l.length := by omega
    have h1 := ih (i + 1) (by omega) (by omega)
    rw [take_bool l i hlt, maskL_snoc, List.length_take, Nat.min_eq_left (by omega)] at h1
    have hm : maskL (l.take i) < 2 ^ i := by have := maskL_lt (l.take i); rwa [List.length_take, Nat.min_eq_left (by omega)] at this
    refine Ev.step (fun k => ?_) h1
    have e3 : rdOf false l (i : Int) = l.getD i false := by simp [rdOf]
    rw [fix_Bits.l0, if_pos (by omega), if_pos (by omega), if_pos (by omega), w64' (x := (i : Int) + 1) (by omega) (by omega), e3]
    by_cases hb : l.getD i false = true
    · rw [if_pos hb, if_pos hb, or_pow _ i hm (by omega)]
      rfl
    · rw [if_neg hb, if_neg hb]
      rfl
theorem ev_bits (l : List Bool) : Ev (fun k => fix_Bits.f k l) (bitsI l) := by
  unfold fix_Bits.f bitsI
  by_cases h : (l.length : Int) > 16
  · simp only [if_pos h]
    rw [if_neg (by omega)]
    exact Ev.now _
  · simp only [if_neg h]
    rw [if_pos (by omega)]
    have := ev_bits0 l (by omega) l.length 0 (by omega) (by omega)
    simpa [maskL] using this
end Go.Proofs.Ytdhmefdnpiidbaa.Ref
