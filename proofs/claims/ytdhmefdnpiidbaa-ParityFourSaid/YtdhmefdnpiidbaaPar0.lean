/- parity.Residues: of two to four numbers of 33 bits each less the mid of the others. -/
import Derived.Test.YtdhmefdnpiidbaaOrd4
namespace Go.Proofs.Ytdhmefdnpiidbaa.Par
open Go.RowKit Go.Proofs.YtdhmefdnpiidbaaW.PrintWords Go.Proofs.YtdhmefdnpiidbaaW.PrintLast Go.Proofs.YtdhmefdnpiidbaaW.PrintMore
open Go.Proofs.Ytdhmefdnpiidbaa.Ord
open Go.Proofs.Ytdhmefdnpiidbaa.Base (info3)

def farB (n : Int) : Bool := decide (n < -4294967296) || decide (4294967296 < n)

theorem far_yes1 (n : Int) (w : World) (h : n < -4294967296) : Calls Try.prog 89 #[.int .i64 n] w fun e w' => e = .returned (.bool true) ∧ w = w' := by
  go_enter Try.func89, Try.ntmps89
  go_wp2
  go_ret
  exact ⟨rfl, rfl⟩
theorem far_yes2 (n : Int) (w : World) (h0 : ¬ n < -4294967296) (h : 4294967296 < n) : Calls Try.prog 89 #[.int .i64 n] w fun e w' => e = .returned (.bool true) ∧ w = w' := by
  go_enter Try.func89, Try.ntmps89
  go_wp2
  go_ret
  exact ⟨rfl, rfl⟩
theorem far_no (n : Int) (w : World) (h0 : ¬ n < -4294967296) (h : ¬ 4294967296 < n) : Calls Try.prog 89 #[.int .i64 n] w fun e w' => e = .returned (.bool false) ∧ w = w' := by
  go_enter Try.func89, Try.ntmps89
  go_wp2
  go_ret
  exact ⟨rfl, rfl⟩
theorem far_any (n : Int) (w : World) : Calls Try.prog 89 #[.int .i64 n] w fun e w' => e = .returned (.bool (farB n)) ∧ w = w' := by
  unfold farB
  by_cases h : n < -4294967296
  · simpa [h] using far_yes1 n w h
  · by_cases h1 : 4294967296 < n
    · simpa [h, h1] using far_yes2 n w h h1
    · simpa [h, h1] using far_no n w h h1
theorem far_at (n : Int) (w : World) {b : Bool} (h : farB n = b) : Calls Try.prog 89 #[.int .i64 n] w fun e w' => e = .returned (.bool b) ∧ w = w' := h ▸ far_any n w

def idxFar (l : List Int) : Int := match l.findIdx? farB with | some i => (i : Int) | none => -1

theorem fidx_some (l : List Int) (k : Nat) (hk : k < l.length) (hb : farB (rd l k) = true) (hlt : ∀ j : Nat, j < k → farB (rd l j) = false) : idxFar l = k := by
  have e : l.findIdx? farB = some k := by
    rw [List.findIdx?_eq_some_iff_getElem]
    refine ⟨hk, ?_, fun j hj => ?_⟩
    · simpa [rd, hk] using hb
    · have := hlt j hj
      simpa [rd, show j < l.length by omega] using this
  simp [idxFar, e]
theorem fidx_none (l : List Int) (hlt : ∀ j : Nat, j < l.length → farB (rd l j) = false) : idxFar l = -1 := by
  have e : l.findIdx? farB = none := by
    rw [List.findIdx?_eq_none_iff]
    intro x hx
    obtain ⟨j, hj, rfl⟩ := List.mem_iff_getElem.1 hx
    simpa [rd, hj] using hlt j hj
  simp [idxFar, e]
theorem fidx_pos {l : List Int} (h : l.any farB = true) : 0 ≤ idxFar l := by
  unfold idxFar
  split
  · omega
  · rename_i e
    rw [List.findIdx?_eq_none_iff] at e
    obtain ⟨x, hx, hb⟩ := List.any_eq_true.1 h
    simp [e x hx] at hb
theorem fidx_neg {l : List Int} (h : l.any farB = false) : idxFar l = -1 := by
  refine fidx_none l fun j hj => ?_
  have := (List.any_eq_false.1 h) (rd l j) (by simp [rd, List.getD_eq_getElem?_getD, List.getElem?_eq_getElem hj])
  simpa using this
def FNoneTo (l : List Int) (k : Nat) : Prop := ∀ j : Nat, j < k → farB (rd l j) = false

set_option maxHeartbeats 1000000 in
theorem findex_any (A : Option Addr) (c : Nat) (l : List Int) (w : World) (hr : Kd.C (Kd.int .i64) w A l.length l) :
    Calls Try.prog 103 #[.slice A l.length c, .func (.func 89) #[] #[]] w fun e w' => e = .returned (.int .i64 (idxFar l)) ∧ w = w' := by
  have hmax := Kd.C_max hr
  have HR := Aside0.mk hr
  clear hr
  go_enter Try.func103, Try.ntmps103
  go_wp2
  go_loop [5, 8] (fun _ i => ∃ k : Nat, k ≤ l.length ∧ i = .int .i64 k ∧ FNoneTo l k) (fun _ i => l.length - (intOf i).toNat)
  case atStart => exact ⟨0, Nat.zero_le _, rfl, fun j hj => absurd hj (by omega)⟩
  case round =>
    obtain ⟨k, hk, rfl, hn⟩ := hrel
    by_cases hlt : k < l.length
    · obtain ⟨ad, ead, hcell⟩ := Kd.at_int HR.out k (by omega) (by omega)
      cases ead
      simp only [Int.toNat_natCast] at hcell
      cases hb : farB (rd l k) with
      | true =>
        have HB := Aside0.mk hb
        clear hb
        go_wp2_with (go_at_call 89; refine (far_at _ _ HB.out).mono ?_; rintro e w' ⟨rfl, rfl⟩)
        go_ret
        exact ⟨ret_int (fidx_some l k hlt HB.out hn).symm, rfl⟩
      | false =>
        have HB := Aside0.mk hb
        clear hb
        go_wp2_with (go_at_call 89; refine (far_at _ _ HB.out).mono ?_; rintro e w' ⟨rfl, rfl⟩)
        go_round
        case rel => exact ⟨k + 1, by omega, by go_num, fun j hj => by
          rcases Nat.lt_succ_iff_lt_or_eq.1 hj with h | h
          · exact hn j h
          · subst h; exact HB.out⟩
        case measure => simp [intOf]; omega
    · go_wp2
      go_ret
      exact ⟨ret_int (fidx_none l (fun j hj => hn j (by omega))).symm, rfl⟩

theorem fcontains_any (A : Option Addr) (c : Nat) (l : List Int) (w : World) (hr : Kd.C (Kd.int .i64) w A l.length l) :
    Calls Try.prog 90 #[.slice A l.length c, .func (.func 89) #[] #[]] w fun e w' => e = .returned (.bool (l.any farB)) ∧ w = w' := by
  have HR := Aside0.mk hr
  clear hr
  go_enter Try.func90, Try.ntmps90
  cases hb : l.any farB with
  | true =>
    have h0 : 0 ≤ idxFar l := fidx_pos hb
    have h1 : decide (0 ≤ idxFar l) = true := decide_eq_true h0
    clear hb h0
    go_wp2_with (go_at_call 103; refine (findex_any _ _ _ _ HR.out).mono ?_; rintro e w' ⟨rfl, rfl⟩)
    go_ret
    exact ⟨rfl, rfl⟩
  | false =>
    have h1 : idxFar l = -1 := fidx_neg hb
    have h2 : decide (0 ≤ idxFar l) = false := by rw [h1]; rfl
    clear hb h1
    go_wp2_with (go_at_call 103; refine (findex_any _ _ _ _ HR.out).mono ?_; rintro e w' ⟨rfl, rfl⟩)
    go_ret
    exact ⟨rfl, rfl⟩


/-- May the values be? -/
def farOk (l : List Int) : Bool := decide (2 ≤ l.length) && decide (l.length ≤ 4) && !(l.any farB)
def resAt (l : List Int) (i : Nat) : Int := gx l i - midI (sortI (dropI l i))
def resTo (l : List Int) (k : Nat) : List Int := (List.range l.length).map fun i => if i < k then resAt l i else 0
def resI (l : List Int) : List Int := (List.range l.length).map (resAt l)

theorem far_small {l : List Int} (h : l.any farB = false) : ∀ x ∈ l, -4294967296 ≤ x ∧ x ≤ 4294967296 := by
  intro x hx
  have := (List.any_eq_false.1 h) x hx
  unfold farB at this
  simp at this
  omega
theorem far_ok {l : List Int} (h4 : l.length ≤ 4) (h : l.any farB = false) : okB l = true := by
  unfold okB
  simp only [Bool.and_eq_true, Bool.not_eq_true', List.any_eq_false, decide_eq_true_eq]
  refine ⟨by omega, fun x hx => ?_⟩
  have := far_small h x hx
  unfold bigB
  simp
  omega
theorem dropI_length (l : List Int) (i : Nat) (h : i < l.length) : (dropI l i).length = l.length - 1 := by simp [dropI]; omega
theorem dropI_mem {l : List Int} {i : Nat} {x : Int} (h : x ∈ dropI l i) : x ∈ l := by
  unfold dropI at h
  rcases List.mem_append.1 h with h | h
  · exact List.mem_of_mem_take h
  · exact List.mem_of_mem_drop h
theorem drop_any {l : List Int} (i : Nat) (h : l.any farB = false) : (dropI l i).any farB = false :=
  List.any_eq_false.2 fun x hx => List.any_eq_false.1 h x (dropI_mem hx)
theorem mid_far {l : List Int} (h : l.any farB = false) (h1 : 1 ≤ l.length) (h4 : l.length ≤ 4) : -4294967296 ≤ midI (sortI l) ∧ midI (sortI l) ≤ 4294967296 := by
  have hb := fun j (hj : j < l.length) => far_small h _ ((sortI_perm l).mem_iff.1 (gx_mem (sortI l) j (by rw [sortI_length]; exact hj)))
  have hlen := sortI_length l
  have b1 := hb ((l.length - 1) / 2) (by omega)
  have b2 := hb (l.length / 2) (by omega)
  unfold midI
  rw [hlen]
  omega
theorem resAt_bound {l : List Int} (h : l.any farB = false) (h2 : 2 ≤ l.length) (h4 : l.length ≤ 4) (i : Nat) (hi : i < l.length) : -8589934592 ≤ resAt l i ∧ resAt l i ≤ 8589934592 := by
  have b1 := far_small h _ (gx_mem l i hi)
  have b2 := mid_far (drop_any i h) (by rw [dropI_length l i hi]; omega) (by rw [dropI_length l i hi]; omega)
  unfold resAt
  omega
theorem resTo_length (l : List Int) (k : Nat) : (resTo l k).length = l.length := by simp [resTo]
theorem resTo_zero (l : List Int) : resTo l 0 = List.replicate l.length 0 := by
  unfold resTo
  apply List.ext_getElem
  · simp
  · intro i h1 h2; simp
theorem resTo_full (l : List Int) : resTo l l.length = resI l := by
  unfold resTo resI
  refine List.map_congr_left fun i hi => ?_
  rw [if_pos (List.mem_range.1 hi)]
theorem resTo_set (l : List Int) (k : Nat) (_h : k < l.length) : (resTo l k).set k (resAt l k) = resTo l (k + 1) := by
  unfold resTo
  apply List.ext_getElem
  · simp
  · intro i h1 h2
    rw [List.getElem_set]
    simp at h1 h2 ⊢
    by_cases e : k = i
    · subst e; simp
    · rw [if_neg e]
      by_cases e2 : i < k
      · rw [if_pos e2, if_pos (by omega)]
      · rw [if_neg e2, if_neg (by omega)]
theorem set_block {w : World} {g : Nat} {ys : List Int} (h : w.heap[g]? = some (.cells (nums .i64 ys).toArray 3 (0, 0))) (j : Nat) (v : Int) :
    (w.setCell ⟨g, j, none⟩ (.int .i64 v)).heap[g]? = some (.cells (nums .i64 (ys.set j v)).toArray 3 (0, 0)) := by
  rw [blk_set h j _]
  simp [nums, List.map_set]

theorem made_nums (n : Nat) : madeCells #[Value.int .i64 0] n = (nums .i64 (List.replicate n 0)).toArray := by
  have h : (madeCells #[Value.int .i64 0] n).toList = nums .i64 (List.replicate n 0) := by
    apply List.ext_getElem
    · simp [nums, madeCells]
    · intro i h1 h2
      simp [nums, madeCells, Nat.mod_one]
  rw [← h]
set_option maxRecDepth 100000 in
set_option maxHeartbeats 1000000 in
theorem residues_ok (A : Option Addr) (c : Nat) (l : List Int) (w : World) (hr : Kd.C (Kd.int .i64) w A l.length l) (hf : l.any farB = false) (h2 : 2 ≤ l.length) (h4 : l.length ≤ 4) :
    Calls Try.prog 55 #[.slice A l.length c] w fun e w' => ∃ v, e = .returned v ∧ Kd.R (Kd.int .i64) 3 w' w.heap.size (fun _ => True) v (resI l) ∧ Below w.heap.size w w' := by
  have HR := Aside0.mk hr
  have HF := Aside0.mk hf
  clear hr hf
  have hmk := print_make (P := Try.prog) 29 3 .i64 8 Try.underlying29 info3 (by decide) l.length (by omega)
  obtain ⟨M, hM⟩ : ∃ M, M = madeCells #[Value.int .i64 0] l.length := ⟨_, rfl⟩
  rw [← hM] at hmk
  have hMl : M = (nums .i64 (resTo l 0)).toArray := by
    rw [hM, resTo_zero]
    exact made_nums _
  have HM := Aside0.mk hMl
  clear hM hMl
  go_enter Try.func55, Try.ntmps55
  go_wp2_with (go_at_call 90; refine (fcontains_any _ _ _ _ HR.out).mono ?_; rw [HF.out]; rintro e w' ⟨rfl, rfl⟩)
  have hg0 : (w.alloc (.cells M 3)).heap[w.heap.size]? = some (.cells (nums .i64 (resTo l 0)).toArray 3 (0, 0)) := by
    rw [← HM.out]
    exact heap_alloc_new w _
  have HG0 := Aside0.mk hg0
  clear hg0 HM hmk
  go_loopw [26] (fun i wr => ∃ k : Nat, i = .int .i64 k ∧ k ≤ l.length ∧ Aside0 (wr.heap[w.heap.size]? = some (.cells (nums .i64 (resTo l k)).toArray 3 (0, 0))) ∧ Aside0 (Below w.heap.size w wr)) (fun i _ => l.length - (intOf i).toNat)
  case atStart => exact ⟨0, rfl, Nat.zero_le _, HG0, ⟨below_alloc (Below.refl _ _) _⟩⟩
  case round =>
    clear HG0
    obtain ⟨k, rfl, hk, HG, HB⟩ := hrel
    by_cases hlt : k < l.length
    · have hok := far_ok h4 HF.out
      have b1 := far_small HF.out _ (gx_mem l k hlt)
      have b2 := mid_far (drop_any k HF.out) (by rw [dropI_length l k hlt]; omega) (by rw [dropI_length l k hlt]; omega)
      have he : gx l k - midI (sortI (dropI l k)) = resAt l k := rfl
      have hdl := dropI_length l k hlt
      have hdok := far_ok (by omega) (drop_any k HF.out)
      have HOK := Aside0.mk hok
      have HE := Aside0.mk he
      have HDL := Aside0.mk hdl
      have HDOK := Aside0.mk hdok
      clear hok he hdl hdok
      obtain ⟨ad, ead, hcell⟩ := cell_rd HR.out k hlt
      cases ead
      have HC := Aside0.mk hcell
      clear hcell
      go_wp2_with (first
        | (go_at_call 27; refine (without_in _ _ _ _ _ (Kd.C_below HR.out HB.out) HOK.out hlt).mono ?_; rintro e w1 ⟨v, rfl, HV, HB1⟩; obtain ⟨g, cap, rfl, hg1, hg2, _⟩ := Kd.R_form HV (by rw [HDL.out]; omega); have HV1 := Aside0.mk HV; have HB2 := Aside0.mk HB1; clear HV HB1)
        | (go_at_call 20; refine (mid_ok _ _ _ _ (Kd.R_reads' HV1.out).2.2 HDOK.out (by rw [HDL.out]; omega) (by rw [HDL.out]; omega)).mono ?_; rintro e w2 ⟨rfl, HB3⟩; have HB4 := Aside0.mk HB3; clear HB3; have HG2 := Aside0.mk (((HB4.out.block _ (Nat.lt_of_lt_of_le (blk_lt HG.out) HB2.out.size)).trans ((HB2.out.block _ (blk_lt HG.out)).trans HG.out))); have c1 := pw_cell_below HB4.out (pw_cell_below HB2.out (pw_cell_below HB.out HC.out)); have c2 := cell_gx HG2.out (by rw [resTo_length]; exact hlt); have f2 := blk_frozen HG2.out k))
      go_roundw
      case rel => exact ⟨k + 1, by go_num, by omega, ⟨by rw [← resTo_set l k hlt, ← HE.out]; exact set_block HG2.out k _⟩, ⟨(below_then (below_then HB.out (by have := HB.out.size; omega) HB2.out) (Nat.le_trans HB.out.size HB2.out.size) HB4.out).setCell (Nat.le_refl _) _⟩⟩
      case measure => simp [intOf]; omega
    · obtain rfl : k = l.length := by omega
      go_wp2
      go_ret
      refine ⟨_, rfl, ?_, HB.out⟩
      have := R_block (base := w.heap.size) (xs := resTo l l.length) HG.out (Nat.le_refl _) (by rw [resTo_length]; unfold maxLen; omega)
      rw [resTo_length] at this
      rw [← resTo_full]
      exact this

theorem residues_len (A : Option Addr) (c : Nat) (l : List Int) (w : World) (h : l.length < 2 ∨ 4 < l.length) :
    Calls Try.prog 55 #[.slice A l.length c] w fun e w' => e = .returned (.slice none 0 0) ∧ w = w' := by
  rcases Nat.lt_or_ge l.length 2 with h1 | h1
  · clear h
    go_enter Try.func55, Try.ntmps55
    go_wp2
    go_ret
    exact ⟨rfl, rfl⟩
  · have h2 : 4 < l.length := by omega
    clear h
    go_enter Try.func55, Try.ntmps55
    go_wp2
    go_ret
    exact ⟨rfl, rfl⟩
theorem residues_far (A : Option Addr) (c : Nat) (l : List Int) (w : World) (hr : Kd.C (Kd.int .i64) w A l.length l) (hf : l.any farB = true) (h2 : 2 ≤ l.length) (h4 : l.length ≤ 4) :
    Calls Try.prog 55 #[.slice A l.length c] w fun e w' => e = .returned (.slice none 0 0) ∧ w = w' := by
  have HR := Aside0.mk hr
  have HF := Aside0.mk hf
  clear hr hf
  go_enter Try.func55, Try.ntmps55
  go_wp2_with (go_at_call 90; refine (fcontains_any _ _ _ _ HR.out).mono ?_; rw [HF.out]; rintro e w' ⟨rfl, rfl⟩)
  go_ret
  exact ⟨rfl, rfl⟩

def parity_Residues.f (l : List Int) : Option (List Int) := some (if farOk l = true then resI l else [])
theorem parity_Residues.calls (A0 : Option Addr) (c0 : Nat) (l0 : List Int) (r : List Int) (w : World) (hr0 : Kd.C (Kd.int .i64) w A0 l0.length l0) (_hc0 : l0.length ≤ c0) (h : parity_Residues.f l0 = some r) :
    Calls Try.prog 55 #[.slice A0 l0.length c0] w fun e w' => ∃ v0_ : Value, e = .returned (v0_) ∧ Kd.R (Kd.int .i64) 3 w' w.heap.size (fun _ => True) v0_ r ∧ Below w.heap.size w w' := by
  obtain rfl := Option.some.inj h
  unfold farOk
  by_cases h2 : 2 ≤ l0.length
  · by_cases h4 : l0.length ≤ 4
    · by_cases hf : l0.any farB = true
      · rw [if_neg (by simp [hf])]
        exact (residues_far A0 c0 l0 w hr0 hf h2 h4).mono fun e w' ⟨he, hw⟩ => ⟨_, he, Kd.R_nil _ _ _ _ _, hw ▸ Below.refl _ _⟩
      · have hf' : l0.any farB = false := by simpa using hf
        rw [if_pos (by simp [hf', h2, h4])]
        exact residues_ok A0 c0 l0 w hr0 hf' h2 h4
    · rw [if_neg (by simp [h4])]
      exact (residues_len A0 c0 l0 w (by omega)).mono fun e w' ⟨he, hw⟩ => ⟨_, he, Kd.R_nil _ _ _ _ _, hw ▸ Below.refl _ _⟩
  · rw [if_neg (by simp [h2])]
    exact (residues_len A0 c0 l0 w (by omega)).mono fun e w' ⟨he, hw⟩ => ⟨_, he, Kd.R_nil _ _ _ _ _, hw ▸ Below.refl _ _⟩
end Go.Proofs.Ytdhmefdnpiidbaa.Par
