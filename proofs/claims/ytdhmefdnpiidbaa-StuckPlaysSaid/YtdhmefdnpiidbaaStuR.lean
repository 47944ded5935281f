/- The document's room: rudderref09.Begin, Room.Vote. -/
import Derived.Test.YtdhmefdnpiidbaaStuA
import Derived.Test.YtdhmefdnpiidbaaRef02
namespace Go.Proofs.Ytdhmefdnpiidbaa.Stu
open Go.RowKit Go.Proofs.YtdhmefdnpiidbaaW.PrintWords Go.Proofs.YtdhmefdnpiidbaaW.PrintLast
open Go.Proofs.YtdhmefdnpiidbaaW.PrintMore Go.Proofs.Ytdhmefdnpiidbaa.Base Go.Proofs.Ytdhmefdnpiidbaa.RG
set_option linter.unusedVariables false
set_option linter.unusedSimpArgs false

theorem right8_eq (n : Int) : rudderref08_Right.f n = some (rightI n) := right_eq n

/-- The document's room: its block, and all its votes, in a row among blocks that are ok. -/
def RefR (W : World) (D : Nat) (wd bd : Int) (ok : Nat → Prop) (L : List Int) : Prop :=
  ∃ v, W.heap[D]? = some (.cells #[.int .i64 wd, .int .i64 bd, v] 131 (0, 0)) ∧ Kd.R (Kd.int .i64) 3 W 0 ok v L
theorem RefR.c0 {W : World} {D : Nat} {wd bd : Int} {ok : Nat → Prop} {L : List Int} (h : RefR W D wd bd ok L) : W.cell? ⟨D, 0, none⟩ = some (.int .i64 wd) := let ⟨_, h, _⟩ := h; (blk_cell h 0).trans rfl
theorem RefR.lt {W : World} {D : Nat} {wd bd : Int} {ok : Nat → Prop} {L : List Int} (h : RefR W D wd bd ok L) : D < W.heap.size := let ⟨_, h, _⟩ := h; (Array.getElem?_eq_some_iff.1 h).1
theorem RefR.keeps {W W' : World} {D : Nat} {wd bd : Int} {ok : Nat → Prop} {L : List Int} (h : RefR W D wd bd ok L) (k : Below W.heap.size W W') : RefR W' D wd bd ok L :=
  let ⟨v, h1, h2⟩ := h; ⟨v, blk_below h1 k, Kd.R_below h2 k⟩
theorem RefR.only {W W' : World} {D B : Nat} {wd bd : Int} {ok : Nat → Prop} {L : List Int} (h : RefR W D wd bd ok L) (k : Only B W W') (hD : D ≠ B) (hB : ∀ j, ok j → j ≠ B) : RefR W' D wd bd ok L :=
  let ⟨v, h1, h2⟩ := h; ⟨v, (k.block D h.lt hD).trans h1, Kd.R_step h2 fun j hj hl => k.block j hl (hB j hj)⟩

theorem begin_ok (wd bd : Int) (w : World) :
    Calls Try.prog 43 #[.int .i64 wd, .int .i64 bd] w fun e w' => ∃ D, e = .returned (.pointer (some ⟨D, 0, none⟩)) ∧ w.heap.size ≤ D ∧ (∀ ok, RefR w' D wd bd ok []) ∧ Below w.heap.size w w' := by
  have hu := Try.underlying131
  go_enter Try.func43, Try.ntmps43
  go_wp2
  go_returns
  exact ⟨w.heap.size, rfl, Nat.le_refl _, fun ok => ⟨_, blk_new _ _, Kd.R_nil _ _ _ _ _⟩, (Below.refl _ _).alloc (Nat.le_refl _) _⟩

set_option maxRecDepth 100000 in
set_option maxHeartbeats 1000000 in
theorem rvote_ok (D : Nat) (wd bd v : Int) (ok : Nat → Prop) (L : List Int) (w : World) (h : RefR w D wd bd ok L) (hok : ∀ k, w.heap.size ≤ k → ok k) (hD : ∀ k, ok k → k ≠ D) (hL : L.length ≤ 1000) (hv : rightI v = true) :
    Calls Try.prog 45 #[.pointer (some ⟨D, 0, none⟩), .int .i64 v] w fun e w' => e = .returned (.int .i64 0) ∧ RefR w' D wd bd ok (L ++ [v]) ∧ Only D w w' := by
  have hu := Try.underlying131
  obtain ⟨u, hb, hr⟩ := h
  obtain ⟨A, c, rfl⟩ := Kd.R_slice hr
  have HR := Aside0.mk hr
  have HK := Aside0.mk hb
  have HV := Aside0.mk hv
  have HO := Aside0.mk hok
  have HD := Aside0.mk hD
  have HLt := Aside0.mk (show D < w.heap.size from (Array.getElem?_eq_some_iff.1 hb).1)
  clear hb hr hv hok hD
  have hl8 : L.length * 8 ≤ 8000 := by omega
  go_enter Try.func45, Try.ntmps45
  go_wp2_with (first
    | (go_at_call 87; refine (rudderref08_Right.calls _ _ _ (by rw [right8_eq, HV.out])).mono ?_; rintro e w1 ⟨rfl, ⟨q, rfl⟩⟩; have c2 : ((w.drewN q).alloc (.cells #[] 3)).cell? ⟨D, 2, none⟩ = some (.slice A L.length c) := (blk_cell (blk_alloc (w := w.drewN q) HK.out _) 2).trans rfl)
    | ((with_reducible refine gate_builtin (b := .append) (xs := #[.tmp 11, .tmp 15]) rfl ?_); at_builtin; refine Kd.R_append_row (Value.int .i64) 0 (h1 := fun _ => rfl) (w0 := w) w.heap.size rfl _ _ 29 3 (.int .i64 0) 8 rfl Try.underlying29 info3 rfl (by decide) (.slice (some ⟨w.heap.size, 0, none⟩) 0 0) [] L A L.length c ok rfl rfl ?aF ?aO ?aR ?aB ?aS ?aL ?_; (case aF => exact fun k hk => HO.out k (by simp at hk; omega)); (case aO => exact Kd.R_mono (Kd.R_bound (Ord.R_block (xs := []) (blk_new (w.drewN q) _) (Nat.le_refl _) (by unfold maxLen; simp))) (fun k hk => HO.out k hk.2.1)); (case aR => exact Kd.C_alloc (Kd.C_drewN (Kd.R_reads' HR.out).2.2 q) _); (case aB => exact below_alloc (drewN_below w q) _); (case aS => simp); (case aL => simp; omega); intro v1 w2 ho hb hg hat; rw [List.nil_append] at ho; have HB1 := Aside0.mk hb; have HO1 := Aside0.mk ho; have HG1 := Aside0.mk ((hg.block D (by simp; have := HLt.out; omega) (by simp [Value.ownBlock]; have := HLt.out; omega)).trans (blk_alloc (w := w.drewN q) HK.out _)); clear hb ho hat hg)
    | ((with_reducible refine gate_builtin (b := .append) (xs := #[.tmp 16, .tmp 18]) rfl ?_); at_builtin; refine Kd.R_append (Kd.int .i64) (w0 := w) w.heap.size rfl (.tmp 16) (.tmp 18) 29 3 (.int .i64 0) 8 rfl Try.underlying29 info3 rfl (by decide) (by omega) v1 L v [.int .i64 v] ok (fun _ => False) rfl rfl rfl (fun _ hk => hk.elim) ?aF HO1.out HB1.out ?aS ?aL ?_; (case aF => exact fun k hk => HO.out k (by have := HB1.out.size; omega)); (case aS => exact HB1.out.size); (case aL => omega); intro v2 w3 ho hb hg _; have HB2 := Aside0.mk hb; have HO2 := Aside0.mk ho; have HG2 := Aside0.mk ((hg.block D (by have := HB1.out.size; have := HLt.out; omega) (fun e => HD.out D (HO1.out.1 D e.symm) rfl)).trans HG1.out); clear hb ho hg; obtain ⟨A2, c2', e2⟩ := Kd.R_slice HO2.out; subst e2; have k2 : w3.cell? ⟨D, 2, none⟩ = some (.slice A L.length c) := (blk_cell HG2.out 2).trans rfl; have f2 : w3.frozen? ⟨D, 2, none⟩ = false := blk_frozen HG2.out 2))
  go_returns
  have HO3 := HO2.out
  rw [show (L ++ [v]).length = L.length + 1 by simp] at HO3
  refine ⟨rfl, ⟨_, blk_put HG2.out 2 _ rfl, Kd.R_far (p := ⟨D, 2, none⟩) (Kd.R_lower HO3 (Nat.zero_le _)) HD.out _⟩, (Only.of HB2.out).trans (Only.set w3 2 _)⟩
theorem rvote_no (D : Nat) (v : Int) (w : World) (hv : rightI v = false) :
    Calls Try.prog 45 #[.pointer (some ⟨D, 0, none⟩), .int .i64 v] w fun e w' => e = .returned (.int .i64 1) ∧ Below w.heap.size w w' := by
  have HV := Aside0.mk hv
  clear hv
  go_enter Try.func45, Try.ntmps45
  go_wp2_with (go_at_call 87; refine (rudderref08_Right.calls _ _ _ (by rw [right8_eq, HV.out])).mono ?_; rintro e w1 ⟨rfl, ⟨q, rfl⟩⟩)
  go_returns
  exact ⟨rfl, drewN_below _ _⟩

/-- The last votes. -/
def lastV (wd : Int) (L : List Int) : List Int := L.drop (mx 0 ((L.length : Int) - (wd - 1))).toNat
theorem lastV_le (wd : Int) (L : List Int) : (lastV wd L).length ≤ L.length := by unfold lastV; simp
end Go.Proofs.Ytdhmefdnpiidbaa.Stu
