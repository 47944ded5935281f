/- stuck.Room.Moved. -/
/- stuck.Watch.Come. -/
import Derived.Test.YtdhmefdnpiidbaaStuI
namespace Go.Proofs.Ytdhmefdnpiidbaa.Stu
open Go.RowKit Go.Proofs.YtdhmefdnpiidbaaW.PrintWords Go.Proofs.YtdhmefdnpiidbaaW.PrintLast
open Go.Proofs.Ytdhmefdnpiidbaa.Base Go.Proofs.Ytdhmefdnpiidbaa.RG
attribute [local go_sem] uponRG_value uponRG_skip uponRG_enter
set_option linter.unusedVariables false
set_option linter.unusedSimpArgs false

/-- The spread of the votes, as order.Spread tells it. -/
def spreadV (l : List Int) : Int := (Ord.order_Spread.f l).getD 0
theorem spreadV_eq (l : List Int) : Ord.order_Spread.f l = some (spreadV l) := rfl
def movedB (wd bd at_ n : Int) (ring : List Int) : Bool := decide (n = wd - 1) && decide (bd < spreadV (votesV wd ring at_ n))

/-- One row that a call hands back. -/
def RowJ (P : Value → World → Prop) : List Bool → List Value → World → Prop
  | [b], [v], V => b = true → P v V
  | _, _, _ => True
def VotesP (L : List Int) (v : Value) (V : World) : Prop := ∃ A c, v = .slice A L.length c ∧ L.length ≤ c ∧ Kd.C (Kd.int .i64) V A L.length L
theorem VotesP.keeps {L : List Int} {v : Value} {V V' : World} (hk : Keeps V V') (h : VotesP L v V) : VotesP L v V' := let ⟨A, c, e, hl, hc⟩ := h; ⟨A, c, e, hl, Kd.C_below hc hk⟩
theorem RowJ.keeps {L : List Int} (bs : List Bool) (us : List Value) (V V' : World) (hk : Keeps V V') (h : RowJ (VotesP L) bs us V) : RowJ (VotesP L) bs us V' := by
  match bs, us, h with
  | [b], [v], h => exact fun hb => (h hb).keeps hk
  | [], _, _ => exact trivial
  | _ :: _ :: _, _, _ => exact trivial
  | [_], [], _ => exact trivial
  | [_], _ :: _ :: _, _ => exact trivial

set_option maxRecDepth 100000 in
set_option maxHeartbeats 4000000 in
theorem moved_yes (B : Nat) (wd bd at_ n : Int) (ring : List Int) (w : World) (h : Room w B wd bd ring at_ n) (hw : 2 ≤ wd ∧ wd ≤ 16) (ha : 0 ≤ at_ ∧ at_ < wd - 1) (hn : 0 ≤ n ∧ n ≤ wd - 1) (he : n = wd - 1) :
    Calls Try.prog 51 #[.pointer (some ⟨B, 0, none⟩)] w fun e w' => e = .returned (.bool (decide (bd < spreadV (votesV wd ring at_ n)))) ∧ Below w.heap.size w w' := by
  have hu := Try.underlying127
  have HR := Aside0.mk h
  have HW := Aside0.mk hw
  have HA := Aside0.mk ha
  have HN := Aside0.mk hn
  have hwr2 : IntKind.i64.wrap (wd - 1) = wd - 1 := (i64_w _).trans (by unfold wrap64; omega)
  have hq : ((n : Int) == wd - 1) = true := beq_iff_eq.2 he
  have hq2 : (n = wd - 1) = True := eq_true he
  have hq3 : decide (n = wd - 1) = true := decide_eq_true he
  clear h hw ha hn he
  go_enter Try.func51, Try.ntmps51
  go_wp2
  refine (wpIn_wide (n := 0)).1 ?_
  have R1 : Room w.drew B wd bd ring at_ n := ⟨HR.out.block, HR.out.len⟩
  refine wpIn_region_rg 25 (by kernel_rfl) (by kernel_rfl) (Keeps w.drew) [16] (RowJ (VotesP (votesV wd ring at_ n))) (tellOf [some (.pointer (some ⟨B, 0, none⟩)), some (.bool true), some (.bool true), some (.pointer (some ⟨B, 0, none⟩)), some (.pointer (some ⟨B, 0, none⟩)), some (.pointer (some ⟨B, 19, none⟩)), some (.int .i64 n), some (.pointer (some ⟨B, 0, none⟩)), some (.pointer (some ⟨B, 0, none⟩)), some (.pointer (some ⟨B, 0, none⟩)), some (.int .i64 wd), some (.int .i64 (wd - 1)), some (.bool true), some (.bool true), some (.bool true), some (.pointer (some ⟨B, 0, none⟩)), none, some (.int .i64 (spreadV (votesV wd ring at_ n))), some (.pointer (some ⟨B, 0, none⟩)), some (.pointer (some ⟨B, 0, none⟩)), some (.pointer (some ⟨B, 1, none⟩)), some (.int .i64 bd), some (.bool (decide (bd < spreadV (votesV wd ring at_ n)))), some (.bool (decide (bd < spreadV (votesV wd ring at_ n)))), some (.bool (decide (bd < spreadV (votesV wd ring at_ n))))]) (by decide) (Keeps.refl _) (fun us h => by cases h) ?_
  simp only [List.take_succ_cons, List.take_zero, List.drop_succ_cons, List.drop_zero]
  refine rg_val _ rfl rfl (fun _ _ h k => h.trans k) RowJ.keeps (fun Ls us V hV hu hb hJ => opRG_run (fun _ => trivial) (by rfl) ?_) ?_
  · clear hu hb hJ
    go_simp
    exact Keeps.refl _
  refine rg_val _ rfl rfl (fun _ _ h k => h.trans k) RowJ.keeps (fun Ls us V hV hu hb hJ => opRG_run (fun _ => trivial) (by rfl) ?_) ?_
  · clear hu hb hJ
    go_simp
    exact Keeps.refl _
  refine rg_val _ rfl rfl (fun _ _ h k => h.trans k) RowJ.keeps (fun Ls us V hV hu hb hJ => opRG_run (fun _ => trivial) (by rfl) ?_) ?_
  · clear hu hb hJ
    go_simp
    exact Keeps.refl _
  (try simp only [Act.put, List.setIfInBounds_toArray, List.set_cons_succ, List.set_cons_zero])
  refine rg_val _ rfl rfl (fun _ _ h k => h.trans k) RowJ.keeps (fun Ls us V hV hu hb hJ => opRG_run (fun _ => trivial) (by rfl) ?_) ?_
  · clear hu hb hJ
    go_simp
    exact Keeps.refl _
  (try simp only [Act.put, List.setIfInBounds_toArray, List.set_cons_succ, List.set_cons_zero])
  refine rg_val _ rfl rfl (fun _ _ h k => h.trans k) RowJ.keeps (fun Ls us V hV hu hb hJ => opRG_run (fun _ => trivial) (by rfl) ?_) ?_
  · clear hu hb hJ
    go_simp
    exact Keeps.refl _
  (try simp only [Act.put, List.setIfInBounds_toArray, List.set_cons_succ, List.set_cons_zero])
  refine rg_val _ rfl rfl (fun _ _ h k => h.trans k) RowJ.keeps (fun Ls us V hV hu hb hJ => opRG_run (fun _ => trivial) (by rfl) ?_) ?_
  · clear hu hb hJ
    go_simp
    exact Keeps.refl _
  (try simp only [Act.put, List.setIfInBounds_toArray, List.set_cons_succ, List.set_cons_zero])
  refine rg_val _ rfl rfl (fun _ _ h k => h.trans k) RowJ.keeps (fun Ls us V hV hu hb hJ => opRG_run (fun _ => trivial) (by rfl) ?_) ?_
  · clear hu hb hJ
    have k19 : V.cell? ⟨B, 19, none⟩ = some (.int .i64 n) := (R1.keeps hV).c19
    go_simp
    exact Keeps.refl _
  (try simp only [Act.put, List.setIfInBounds_toArray, List.set_cons_succ, List.set_cons_zero])
  refine rg_val _ rfl rfl (fun _ _ h k => h.trans k) RowJ.keeps (fun Ls us V hV hu hb hJ => opRG_run (fun _ => trivial) (by rfl) ?_) ?_
  · clear hu hb hJ
    go_simp
    exact Keeps.refl _
  (try simp only [Act.put, List.setIfInBounds_toArray, List.set_cons_succ, List.set_cons_zero])
  refine rg_val _ rfl rfl (fun _ _ h k => h.trans k) RowJ.keeps (fun Ls us V hV hu hb hJ => opRG_run (fun _ => trivial) (by rfl) ?_) ?_
  · clear hu hb hJ
    go_simp
    exact Keeps.refl _
  (try simp only [Act.put, List.setIfInBounds_toArray, List.set_cons_succ, List.set_cons_zero])
  refine rg_val _ rfl rfl (fun _ _ h k => h.trans k) RowJ.keeps (fun Ls us V hV hu hb hJ => opRG_run (fun _ => trivial) (by rfl) ?_) ?_
  · clear hu hb hJ
    go_simp
    exact Keeps.refl _
  (try simp only [Act.put, List.setIfInBounds_toArray, List.set_cons_succ, List.set_cons_zero])
  refine rg_val _ rfl rfl (fun _ _ h k => h.trans k) RowJ.keeps (fun Ls us V hV hu hb hJ => opRG_run (fun _ => trivial) (by rfl) ?_) ?_
  · clear hu hb hJ
    have k0 : V.cell? ⟨B, 0, none⟩ = some (.int .i64 wd) := (R1.keeps hV).c0
    go_simp
    exact Keeps.refl _
  (try simp only [Act.put, List.setIfInBounds_toArray, List.set_cons_succ, List.set_cons_zero])
  refine rg_val _ rfl rfl (fun _ _ h k => h.trans k) RowJ.keeps (fun Ls us V hV hu hb hJ => opRG_run (fun _ => trivial) (by rfl) ?_) ?_
  · clear hu hb hJ
    go_simp
    exact Keeps.refl _
  (try simp only [Act.put, List.setIfInBounds_toArray, List.set_cons_succ, List.set_cons_zero])
  refine rg_val _ rfl rfl (fun _ _ h k => h.trans k) RowJ.keeps (fun Ls us V hV hu hb hJ => opRG_run (fun _ => trivial) (by rfl) ?_) ?_
  · clear hu hb hJ
    go_simp
    exact Keeps.refl _
  refine rg_val _ rfl rfl (fun _ _ h k => h.trans k) RowJ.keeps (fun Ls us V hV hu hb hJ => opRG_run (fun _ => trivial) (by rfl) ?_) ?_
  · clear hu hb hJ
    go_simp
    exact Keeps.refl _
  refine rg_val _ rfl rfl (fun _ _ h k => h.trans k) RowJ.keeps (fun Ls us V hV hu hb hJ => opRG_run (fun _ => trivial) (by rfl) ?_) ?_
  · clear hu hb hJ
    go_simp
    exact Keeps.refl _
  (try simp only [Act.put, List.setIfInBounds_toArray, List.set_cons_succ, List.set_cons_zero])
  refine rg_val _ rfl rfl (fun _ _ h k => h.trans k) RowJ.keeps (fun Ls us V hV hu hb hJ => opRG_run (fun _ => trivial) (by rfl) ?_) ?_
  · clear hu hb hJ
    go_simp
    exact Keeps.refl _
  (try simp only [Act.put, List.setIfInBounds_toArray, List.set_cons_succ, List.set_cons_zero])
  refine rg_rel rfl (fun Ls us V hV hu hL hb hJ => opRG_run (fun _ => trivial) (by rfl) ?_) (fun v49 => ?_)
  · clear hu hb hJ
    go_simp
    refine ⟨by first | rfl | (intro h; cases h), callsIn_wide.2 ((votes_ok B wd bd at_ n ring HW.out HA.out HN.out V (R1.keeps hV)).mono ?_)⟩
    rintro e w2 ⟨v, rfl, hr, hk⟩
    obtain ⟨A, c, rfl, hl, hc⟩ := Kd.R_reads hr
    exact ⟨_, rfl, hV.trans hk, fun _ => ⟨A, c, by simp [upd], hl, hc⟩⟩
  (try simp only [Act.put, List.setIfInBounds_toArray, List.set_cons_succ, List.set_cons_zero])
  refine rg_val _ rfl rfl (fun _ _ h k => h.trans k) RowJ.keeps (fun Ls us V hV hu hb hJ => opRG_run (fun _ => trivial) (by rfl) ?_) ?_
  · obtain ⟨A, c, e, hl, hc⟩ : VotesP _ (us 16) V := hJ (hb 16 (by kernel_rfl))
    have e' : v49 = .slice A _ c := (hu 16 (by decide)).symm.trans e
    subst e'
    clear hu hb hJ e
    go_simp
    refine ⟨by first | rfl | (intro h; cases h), callsIn_wide.2 ((Ord.order_Spread.calls A c _ _ V hc hl (spreadV_eq _)).mono ?_)⟩
    rintro e w2 ⟨rfl, hd⟩
    exact ⟨_, rfl, rfl, drawn_below hd⟩
  (try simp only [Act.put, List.setIfInBounds_toArray, List.set_cons_succ, List.set_cons_zero])
  refine rg_val _ rfl rfl (fun _ _ h k => h.trans k) RowJ.keeps (fun Ls us V hV hu hb hJ => opRG_run (fun _ => trivial) (by rfl) ?_) ?_
  · clear hu hb hJ
    go_simp
    exact Keeps.refl _
  (try simp only [Act.put, List.setIfInBounds_toArray, List.set_cons_succ, List.set_cons_zero])
  refine rg_val _ rfl rfl (fun _ _ h k => h.trans k) RowJ.keeps (fun Ls us V hV hu hb hJ => opRG_run (fun _ => trivial) (by rfl) ?_) ?_
  · clear hu hb hJ
    go_simp
    exact Keeps.refl _
  (try simp only [Act.put, List.setIfInBounds_toArray, List.set_cons_succ, List.set_cons_zero])
  refine rg_val _ rfl rfl (fun _ _ h k => h.trans k) RowJ.keeps (fun Ls us V hV hu hb hJ => opRG_run (fun _ => trivial) (by rfl) ?_) ?_
  · clear hu hb hJ
    go_simp
    exact Keeps.refl _
  (try simp only [Act.put, List.setIfInBounds_toArray, List.set_cons_succ, List.set_cons_zero])
  refine rg_val _ rfl rfl (fun _ _ h k => h.trans k) RowJ.keeps (fun Ls us V hV hu hb hJ => opRG_run (fun _ => trivial) (by rfl) ?_) ?_
  · clear hu hb hJ
    have k1 : V.cell? ⟨B, 1, none⟩ = some (.int .i64 bd) := (R1.keeps hV).c1
    go_simp
    exact Keeps.refl _
  (try simp only [Act.put, List.setIfInBounds_toArray, List.set_cons_succ, List.set_cons_zero])
  refine rg_val _ rfl rfl (fun _ _ h k => h.trans k) RowJ.keeps (fun Ls us V hV hu hb hJ => opRG_run (fun _ => trivial) (by rfl) ?_) ?_
  · clear hu hb hJ
    go_simp
    exact Keeps.refl _
  refine rg_val _ rfl rfl (fun _ _ h k => h.trans k) RowJ.keeps (fun Ls us V hV hu hb hJ => opRG_run (fun _ => trivial) (by rfl) ?_) ?_
  · clear hu hb hJ
    go_simp
    exact Keeps.refl _
  refine rg_val _ rfl rfl (fun _ _ h k => h.trans k) RowJ.keeps (fun Ls us V hV hu hb hJ => opRG_run (fun _ => trivial) (by rfl) ?_) ?_
  · clear hu hb hJ
    go_simp
    exact Keeps.refl _
  refine rgWalk.nil fun us V hV hu hJ => ?_
  clear hu hJ us
  gi_wp2
  go_wp2
  go_returns
  exact ⟨rfl, (Below.refl _ w).trans ⟨hV.os, hV.tape, hV.output, hV.size, hV.block⟩⟩

set_option maxRecDepth 100000 in
set_option maxHeartbeats 4000000 in
theorem moved_no (B : Nat) (wd bd at_ n : Int) (ring : List Int) (w : World) (h : Room w B wd bd ring at_ n) (hw : 2 ≤ wd ∧ wd ≤ 16) (ha : 0 ≤ at_ ∧ at_ < wd - 1) (hn : 0 ≤ n ∧ n ≤ wd - 1) (he : ¬ n = wd - 1) :
    Calls Try.prog 51 #[.pointer (some ⟨B, 0, none⟩)] w fun e w' => e = .returned (.bool false) ∧ Below w.heap.size w w' := by
  have hu := Try.underlying127
  have HR := Aside0.mk h
  have HW := Aside0.mk hw
  have HA := Aside0.mk ha
  have HN := Aside0.mk hn
  have hwr2 : IntKind.i64.wrap (wd - 1) = wd - 1 := (i64_w _).trans (by unfold wrap64; omega)
  have hq : ((n : Int) == wd - 1) = false := beq_eq_false_iff_ne.2 he
  have hq2 : (n = wd - 1) = False := eq_false he
  have hq3 : decide (n = wd - 1) = false := decide_eq_false he
  clear h hw ha hn he
  go_enter Try.func51, Try.ntmps51
  go_wp2
  refine (wpIn_wide (n := 0)).1 ?_
  have R1 : Room w.drew B wd bd ring at_ n := ⟨HR.out.block, HR.out.len⟩
  refine wpIn_rg0 25 [some (.pointer (some ⟨B, 0, none⟩)), some (.bool true), some (.bool true), some (.pointer (some ⟨B, 0, none⟩)), some (.pointer (some ⟨B, 0, none⟩)), some (.pointer (some ⟨B, 19, none⟩)), some (.int .i64 n), some (.pointer (some ⟨B, 0, none⟩)), some (.pointer (some ⟨B, 0, none⟩)), some (.pointer (some ⟨B, 0, none⟩)), some (.int .i64 wd), some (.int .i64 (wd - 1)), some (.bool false), some (.bool false), some (.bool false), some (undef), some (undef), some (undef), some (undef), some (undef), some (undef), some (undef), some (undef), some (.bool false), some (.bool false)] (by kernel_rfl) (by kernel_rfl) ?_
  simp only [List.take_succ_cons, List.take_zero, List.drop_succ_cons, List.drop_zero]
  refine rg_val0 _ rfl (fun V hV => opRG_run (fun _ => trivial) (by rfl) ?_) ?_
  · go_simp
    exact Keeps.refl _
  refine rg_val0 _ rfl (fun V hV => opRG_run (fun _ => trivial) (by rfl) ?_) ?_
  · go_simp
    exact Keeps.refl _
  refine rg_val0 _ rfl (fun V hV => opRG_run (fun _ => trivial) (by rfl) ?_) ?_
  · go_simp
    exact Keeps.refl _
  (try simp only [Act.put, List.setIfInBounds_toArray, List.set_cons_succ, List.set_cons_zero])
  refine rg_val0 _ rfl (fun V hV => opRG_run (fun _ => trivial) (by rfl) ?_) ?_
  · go_simp
    exact Keeps.refl _
  (try simp only [Act.put, List.setIfInBounds_toArray, List.set_cons_succ, List.set_cons_zero])
  refine rg_val0 _ rfl (fun V hV => opRG_run (fun _ => trivial) (by rfl) ?_) ?_
  · go_simp
    exact Keeps.refl _
  (try simp only [Act.put, List.setIfInBounds_toArray, List.set_cons_succ, List.set_cons_zero])
  refine rg_val0 _ rfl (fun V hV => opRG_run (fun _ => trivial) (by rfl) ?_) ?_
  · go_simp
    exact Keeps.refl _
  (try simp only [Act.put, List.setIfInBounds_toArray, List.set_cons_succ, List.set_cons_zero])
  refine rg_val0 _ rfl (fun V hV => opRG_run (fun _ => trivial) (by rfl) ?_) ?_
  · have k19 : V.cell? ⟨B, 19, none⟩ = some (.int .i64 n) := (R1.keeps hV).c19
    go_simp
    exact Keeps.refl _
  (try simp only [Act.put, List.setIfInBounds_toArray, List.set_cons_succ, List.set_cons_zero])
  refine rg_val0 _ rfl (fun V hV => opRG_run (fun _ => trivial) (by rfl) ?_) ?_
  · go_simp
    exact Keeps.refl _
  (try simp only [Act.put, List.setIfInBounds_toArray, List.set_cons_succ, List.set_cons_zero])
  refine rg_val0 _ rfl (fun V hV => opRG_run (fun _ => trivial) (by rfl) ?_) ?_
  · go_simp
    exact Keeps.refl _
  (try simp only [Act.put, List.setIfInBounds_toArray, List.set_cons_succ, List.set_cons_zero])
  refine rg_val0 _ rfl (fun V hV => opRG_run (fun _ => trivial) (by rfl) ?_) ?_
  · go_simp
    exact Keeps.refl _
  (try simp only [Act.put, List.setIfInBounds_toArray, List.set_cons_succ, List.set_cons_zero])
  refine rg_val0 _ rfl (fun V hV => opRG_run (fun _ => trivial) (by rfl) ?_) ?_
  · have k0 : V.cell? ⟨B, 0, none⟩ = some (.int .i64 wd) := (R1.keeps hV).c0
    go_simp
    exact Keeps.refl _
  (try simp only [Act.put, List.setIfInBounds_toArray, List.set_cons_succ, List.set_cons_zero])
  refine rg_val0 _ rfl (fun V hV => opRG_run (fun _ => trivial) (by rfl) ?_) ?_
  · go_simp
    exact Keeps.refl _
  (try simp only [Act.put, List.setIfInBounds_toArray, List.set_cons_succ, List.set_cons_zero])
  refine rg_val0 _ rfl (fun V hV => opRG_run (fun _ => trivial) (by rfl) ?_) ?_
  · go_simp
    exact Keeps.refl _
  refine rg_val0 _ rfl (fun V hV => opRG_run (fun _ => trivial) (by rfl) ?_) ?_
  · go_simp
    exact Keeps.refl _
  refine rg_val0 _ rfl (fun V hV => opRG_run (fun _ => trivial) (by rfl) ?_) ?_
  · go_simp
    exact Keeps.refl _
  (try simp only [Act.put, List.setIfInBounds_toArray, List.set_cons_succ, List.set_cons_zero])
  refine rg_val0 _ rfl (fun V hV => opRG_not (fun _ => trivial) (by rfl) ⟨rfl, Keeps.refl _⟩) ?_
  (try simp only [Act.put, List.setIfInBounds_toArray, List.set_cons_succ, List.set_cons_zero])
  refine rg_val0 _ rfl (fun V hV => opRG_not (fun _ => trivial) (by rfl) ⟨rfl, Keeps.refl _⟩) ?_
  (try simp only [Act.put, List.setIfInBounds_toArray, List.set_cons_succ, List.set_cons_zero])
  refine rg_val0 _ rfl (fun V hV => opRG_not (fun _ => trivial) (by rfl) ⟨rfl, Keeps.refl _⟩) ?_
  (try simp only [Act.put, List.setIfInBounds_toArray, List.set_cons_succ, List.set_cons_zero])
  refine rg_val0 _ rfl (fun V hV => opRG_not (fun _ => trivial) (by rfl) ⟨rfl, Keeps.refl _⟩) ?_
  (try simp only [Act.put, List.setIfInBounds_toArray, List.set_cons_succ, List.set_cons_zero])
  refine rg_val0 _ rfl (fun V hV => opRG_not (fun _ => trivial) (by rfl) ⟨rfl, Keeps.refl _⟩) ?_
  (try simp only [Act.put, List.setIfInBounds_toArray, List.set_cons_succ, List.set_cons_zero])
  refine rg_val0 _ rfl (fun V hV => opRG_not (fun _ => trivial) (by rfl) ⟨rfl, Keeps.refl _⟩) ?_
  (try simp only [Act.put, List.setIfInBounds_toArray, List.set_cons_succ, List.set_cons_zero])
  refine rg_val0 _ rfl (fun V hV => opRG_not (fun _ => trivial) (by rfl) ⟨rfl, Keeps.refl _⟩) ?_
  (try simp only [Act.put, List.setIfInBounds_toArray, List.set_cons_succ, List.set_cons_zero])
  refine rg_val0 _ rfl (fun V hV => opRG_not (fun _ => trivial) (by rfl) ⟨rfl, Keeps.refl _⟩) ?_
  refine rg_val0 _ rfl (fun V hV => opRG_run (fun _ => trivial) (by rfl) ?_) ?_
  · go_simp
    exact Keeps.refl _
  refine rg_val0 _ rfl (fun V hV => opRG_run (fun _ => trivial) (by rfl) ?_) ?_
  · go_simp
    exact Keeps.refl _
  refine rgWalk.nil fun us V hV hu hJ => ?_
  clear hu hJ us
  gi_wp2
  go_wp2
  go_returns
  exact ⟨rfl, (Below.refl _ w).trans ⟨hV.os, hV.tape, hV.output, hV.size, hV.block⟩⟩

theorem moved_ok (B : Nat) (wd bd at_ n : Int) (ring : List Int) (w : World) (h : Room w B wd bd ring at_ n) (hw : 2 ≤ wd ∧ wd ≤ 16) (ha : 0 ≤ at_ ∧ at_ < wd - 1) (hn : 0 ≤ n ∧ n ≤ wd - 1) :
    Calls Try.prog 51 #[.pointer (some ⟨B, 0, none⟩)] w fun e w' => e = .returned (.bool (movedB wd bd at_ n ring)) ∧ Below w.heap.size w w' := by
  unfold movedB
  by_cases he : n = wd - 1
  · rw [decide_eq_true he, Bool.true_and]
    exact moved_yes B wd bd at_ n ring w h hw ha hn he
  · rw [decide_eq_false he, Bool.false_and]
    exact moved_no B wd bd at_ n ring w h hw ha hn he
end Go.Proofs.Ytdhmefdnpiidbaa.Stu

namespace Go.Proofs.Ytdhmefdnpiidbaa.Stu
open Go.RowKit Go.Proofs.YtdhmefdnpiidbaaW.PrintWords Go.Proofs.YtdhmefdnpiidbaaW.PrintLast
open Go.Proofs.Ytdhmefdnpiidbaa.Base Go.Proofs.Ytdhmefdnpiidbaa.RG
attribute [local go_sem] uponRG_value uponRG_skip uponRG_enter
set_option linter.unusedVariables false
set_option linter.unusedSimpArgs false

/-- One operation that is told both ways. -/
theorem rg_both {F : Fence} {m : Nat} {P : Program} {ops : Array Oper} {C : World → Prop} {rel : List Nat} {J : List Bool → List Value → World → Prop} {val : Nat → Option Value} {T : (Nat → Value) → Act → Prop} {o : Oper} {rest : List Oper} {k : Nat} {vs : Nat → Value} {a : Act} (c : Value) (hs : val k = some c)
    (h : ∀ L us V, C V → (∀ j, j < k → us j = vs j) → L k = false → (∀ j, Bef ops j k = true → L j = true) → J (rel.map L) (rel.map us) V → opRG F m P ops o a V fun v w' => v = c ∧ C w' ∧ J (rel.map (upd L k true)) (rel.map (upd us k v)) w')
    (hn : rgWalk F m P ops C rel J val T rest (k + 1) (upd vs k c) (a.put o.dst c)) : rgWalk F m P ops C rel J val T (o :: rest) k vs a :=
  ⟨fun L us w hC hu hL hb hJ => (h L us w hC hu hL hb hJ).mono fun v w' ⟨e, h1, h2⟩ => ⟨h1, h2, fun c' hc' => by rw [hs] at hc'; cases hc'; exact e⟩, fun v hv => by rw [hv c hs]; exact hn⟩

def resetI (last run v : Int) : Int := if run = 0 ∨ v ≠ last then 0 else run
def nextI (wd r : Int) : Int := mn (r + 1) wd

/-- The watch while its two places are being written. -/
def ComeJ (A B : Nat) (last v r1 r2 : Int) (bs : List Bool) (_ : List Value) (V : World) : Prop :=
  (bs.getD 2 false = true → bs.getD 0 false = true ∧ bs.getD 1 false = true) ∧ Wat V A B (if bs.getD 1 false = true then v else last) (if bs.getD 2 false = true then r2 else r1)
theorem ComeJ.keeps {A B : Nat} {last v r1 r2 : Int} (bs : List Bool) (us : List Value) (V V' : World) (hk : Keeps V V') (h : ComeJ A B last v r1 r2 bs us V) : ComeJ A B last v r1 r2 bs us V' := ⟨h.1, h.2.keeps hk⟩
theorem ComeJ.wat {A B : Nat} {last v r1 r2 : Int} {bs : List Bool} {us : List Value} {V : World} (h : ComeJ A B last v r1 r2 bs us V) : ∃ l r, Wat V A B l r := ⟨_, _, h.2⟩
section
variable {A B : Nat} {last v r1 r2 : Int} {a b c : Bool} {us us' : List Value} {V : World}
theorem ComeJ.load (h : ComeJ A B last v r1 r2 [a, b, c] us V) (ha : a = false) : ComeJ A B last v r1 r2 [true, b, c] us' V := by
  have hc : c = false := by
    cases c with
    | false => rfl
    | true => exact absurd (h.1 rfl).1 (by simp [ha])
  subst hc
  exact ⟨fun e => absurd e (by simp), h.2⟩
theorem ComeJ.run (h : ComeJ A B last v r1 r2 [a, b, c] us V) (ha : a = false) : ∃ l, Wat V A B l r1 := by
  have hc : c = false := by
    cases c with
    | false => rfl
    | true => exact absurd (h.1 rfl).1 (by simp [ha])
  subst hc
  exact ⟨_, h.2⟩
theorem ComeJ.put1 (h : ComeJ A B last v r1 r2 [a, b, c] us V) (hb : b = false) : ComeJ A B last v r1 r2 [a, true, c] us' (V.setCell ⟨A, 1, none⟩ (.int .i64 v)) := by
  have hc : c = false := by
    cases c with
    | false => rfl
    | true => exact absurd (h.1 rfl).2 (by simp [hb])
  subst hc
  exact ⟨fun e => absurd e (by simp), h.2.setLast v⟩
theorem ComeJ.put2 (h : ComeJ A B last v r1 r2 [a, b, c] us V) (ha : a = true) (hb : b = true) : ComeJ A B last v r1 r2 [a, b, true] us' (V.setCell ⟨A, 2, none⟩ (.int .i64 r2)) := by
  subst ha hb
  exact ⟨fun _ => ⟨rfl, rfl⟩, h.2.setRun r2⟩
end

set_option maxRecDepth 100000 in
set_option maxHeartbeats 4000000 in
theorem come_a (A B : Nat) (wd bd at_ n v last run r1 : Int) (ring : List Int) (w : World) (h : Room w B wd bd ring at_ n) (hwa : Wat w A B last run) (hab : A ≠ B) (hw : 2 ≤ wd ∧ wd ≤ 16) (ha : 0 ≤ at_ ∧ at_ < wd - 1) (hn : 0 ≤ n ∧ n ≤ wd - 1) (hr : 0 ≤ run ∧ run ≤ wd) (hv : rightI v = true) (hc : run ≠ 0 ∧ v = last ∧ r1 = run) :
    Calls Try.prog 47 #[.pointer (some ⟨A, 0, none⟩), .int .i64 v] w fun e w' => e = .returned (.tuple #[.bool (decide (nextI wd r1 = wd) && movedB wd bd at_ n ring), .int .i64 0]) ∧ Wat w' A B v (nextI wd r1) ∧ Only A w w' := by
  have hu := Try.underlying127
  have hu2 := Try.underlying129
  have HV := Aside0.mk hv
  have HW := Aside0.mk hw
  have HA := Aside0.mk ha
  have HN := Aside0.mk hn
  have H0 := Aside0.mk h
  have HA0 := Aside0.mk hwa
  have HAB := Aside0.mk hab
  obtain ⟨c1, rfl, rfl⟩ := hc
  have d1 := beq_eq_false_iff_ne.2 c1
  have d2 := decide_eq_false c1
  have d3 := eq_false c1
  have hr1 := hr
  have hwr2 : IntKind.i64.wrap (r1 + 1) = r1 + 1 := (i64_w _).trans (by unfold wrap64; omega)
  clear h hwa hw ha hn hr hv hab
  go_enter Try.func47, Try.ntmps47
  have a1 := HA0.out.c1
  have a2 := HA0.out.c2
  have f2 := HA0.out.fz 2
  go_wp2_with (go_at_call 86; refine (stuck_right.calls _ _ _ (by rw [right_eq, HV.out])).mono ?_; rintro e w1 ⟨rfl, ⟨q, rfl⟩⟩; have a1 : (w.drewN q).cell? ⟨A, 1, none⟩ = some (.int .i64 v) := HA0.out.c1; have a2 : (w.drewN q).cell? ⟨A, 2, none⟩ = some (.int .i64 r1) := HA0.out.c2; have f2 : (w.drewN q).frozen? ⟨A, 2, none⟩ = false := HA0.out.fz 2)
  have R0 : Room (w.drewN q) B wd bd ring at_ n := ⟨H0.out.block, H0.out.len⟩
  have W0 : Wat (w.drewN q) A B v r1 := HA0.out
  have O0 : Only A w (w.drewN q) := Only.of (drewN_below w q)
  generalize w.drewN q = w2 at R0 W0 O0 ⊢
  refine (wpIn_wide (n := 0)).1 ?_
  have R1 : Room w2.drew B wd bd ring at_ n := ⟨R0.block, R0.len⟩
  have W1 : Wat w2.drew A B v r1 := W0
  have O1 : Only A w w2.drew := ⟨O0.os, O0.tape, O0.output, O0.size, O0.block⟩
  clear R0 W0 O0
  refine wpIn_region_rg 22 (by kernel_rfl) (by kernel_rfl) (fun V => Room V B wd bd ring at_ n ∧ Only A w V) [6, 18, 21] (ComeJ A B v v r1 (nextI wd r1)) (tellOf [some (.pointer (some ⟨A, 0, none⟩)), some (.pointer (some ⟨A, 0, none⟩)), some (.int .i64 v), some (.pointer (some ⟨A, 0, none⟩)), some (.pointer (some ⟨A, 0, none⟩)), some (.pointer (some ⟨A, 2, none⟩)), some (.int .i64 r1), some (.int .i64 (r1 + 1)), some (.pointer (some ⟨A, 0, none⟩)), some (.pointer (some ⟨A, 0, none⟩)), some (.pointer (some ⟨A, 0, none⟩)), some (.pointer (some ⟨B, 0, none⟩)), some (.pointer (some ⟨B, 0, none⟩)), some (.pointer (some ⟨B, 0, none⟩)), some (.int .i64 wd), some (.int .i64 (nextI wd r1)), some (.pointer (some ⟨A, 0, none⟩)), some (.pointer (some ⟨A, 1, none⟩)), some (undef), some (.pointer (some ⟨A, 0, none⟩)), some (.pointer (some ⟨A, 2, none⟩)), some (undef)]) (by decide) ⟨R1, O1⟩ (fun us => ⟨fun e => absurd e (by simp), W1⟩) ?_
  simp only [List.take_succ_cons, List.take_zero, List.drop_succ_cons, List.drop_zero]
  (try simp only [Act.put, List.setIfInBounds_toArray, List.set_cons_succ, List.set_cons_zero])
  refine rg_val _ rfl rfl (fun _ _ h k => ⟨h.1.keeps k, h.2.trans (Only.of k)⟩) ComeJ.keeps (fun Ls us V hV hu hb hJ => opRG_run (fun _ => trivial) (by rfl) ?_) ?_
  · obtain ⟨l_, r_, hW_⟩ := ComeJ.wat hJ
    clear hu hb hJ
    go_simp
    exact Keeps.refl _
  (try simp only [Act.put, List.setIfInBounds_toArray, List.set_cons_succ, List.set_cons_zero])
  refine rg_val _ rfl rfl (fun _ _ h k => ⟨h.1.keeps k, h.2.trans (Only.of k)⟩) ComeJ.keeps (fun Ls us V hV hu hb hJ => opRG_run (fun _ => trivial) (by rfl) ?_) ?_
  · obtain ⟨l_, r_, hW_⟩ := ComeJ.wat hJ
    clear hu hb hJ
    go_simp
    exact Keeps.refl _
  (try simp only [Act.put, List.setIfInBounds_toArray, List.set_cons_succ, List.set_cons_zero])
  refine rg_val _ rfl rfl (fun _ _ h k => ⟨h.1.keeps k, h.2.trans (Only.of k)⟩) ComeJ.keeps (fun Ls us V hV hu hb hJ => opRG_run (fun _ => trivial) (by rfl) ?_) ?_
  · obtain ⟨l_, r_, hW_⟩ := ComeJ.wat hJ
    clear hu hb hJ
    go_simp
    exact Keeps.refl _
  (try simp only [Act.put, List.setIfInBounds_toArray, List.set_cons_succ, List.set_cons_zero])
  refine rg_val _ rfl rfl (fun _ _ h k => ⟨h.1.keeps k, h.2.trans (Only.of k)⟩) ComeJ.keeps (fun Ls us V hV hu hb hJ => opRG_run (fun _ => trivial) (by rfl) ?_) ?_
  · obtain ⟨l_, r_, hW_⟩ := ComeJ.wat hJ
    clear hu hb hJ
    go_simp
    exact Keeps.refl _
  (try simp only [Act.put, List.setIfInBounds_toArray, List.set_cons_succ, List.set_cons_zero])
  refine rg_val _ rfl rfl (fun _ _ h k => ⟨h.1.keeps k, h.2.trans (Only.of k)⟩) ComeJ.keeps (fun Ls us V hV hu hb hJ => opRG_run (fun _ => trivial) (by rfl) ?_) ?_
  · obtain ⟨l_, r_, hW_⟩ := ComeJ.wat hJ
    clear hu hb hJ
    go_simp
    exact Keeps.refl _
  (try simp only [Act.put, List.setIfInBounds_toArray, List.set_cons_succ, List.set_cons_zero])
  refine rg_val _ rfl rfl (fun _ _ h k => ⟨h.1.keeps k, h.2.trans (Only.of k)⟩) ComeJ.keeps (fun Ls us V hV hu hb hJ => opRG_run (fun _ => trivial) (by rfl) ?_) ?_
  · obtain ⟨l_, r_, hW_⟩ := ComeJ.wat hJ
    clear hu hb hJ
    go_simp
    exact Keeps.refl _
  (try simp only [Act.put, List.setIfInBounds_toArray, List.set_cons_succ, List.set_cons_zero])
  refine rg_both _ rfl (fun Ls us V hV hu hL hb hJ => opRG.mono (N := fun v w' => v = .int .i64 r1 ∧ w' = V) ?_ (opRG_run (fun _ => trivial) (by rfl) ?_)) ?_
  · rintro v w' ⟨rfl, rfl⟩
    exact ⟨rfl, hV, ComeJ.load (a := Ls 6) (b := Ls 18) (c := Ls 21) hJ hL⟩
  · obtain ⟨l_, hW_⟩ := ComeJ.run (a := Ls 6) (b := Ls 18) (c := Ls 21) hJ hL
    clear hu hb hJ hL
    have k2 := hW_.c2
    go_simp
  (try simp only [Act.put, List.setIfInBounds_toArray, List.set_cons_succ, List.set_cons_zero])
  refine rg_val _ rfl rfl (fun _ _ h k => ⟨h.1.keeps k, h.2.trans (Only.of k)⟩) ComeJ.keeps (fun Ls us V hV hu hb hJ => opRG_run (fun _ => trivial) (by rfl) ?_) ?_
  · obtain ⟨l_, r_, hW_⟩ := ComeJ.wat hJ
    clear hu hb hJ
    go_simp
    exact Keeps.refl _
  (try simp only [Act.put, List.setIfInBounds_toArray, List.set_cons_succ, List.set_cons_zero])
  refine rg_val _ rfl rfl (fun _ _ h k => ⟨h.1.keeps k, h.2.trans (Only.of k)⟩) ComeJ.keeps (fun Ls us V hV hu hb hJ => opRG_run (fun _ => trivial) (by rfl) ?_) ?_
  · obtain ⟨l_, r_, hW_⟩ := ComeJ.wat hJ
    clear hu hb hJ
    go_simp
    exact Keeps.refl _
  (try simp only [Act.put, List.setIfInBounds_toArray, List.set_cons_succ, List.set_cons_zero])
  refine rg_val _ rfl rfl (fun _ _ h k => ⟨h.1.keeps k, h.2.trans (Only.of k)⟩) ComeJ.keeps (fun Ls us V hV hu hb hJ => opRG_run (fun _ => trivial) (by rfl) ?_) ?_
  · obtain ⟨l_, r_, hW_⟩ := ComeJ.wat hJ
    clear hu hb hJ
    go_simp
    exact Keeps.refl _
  (try simp only [Act.put, List.setIfInBounds_toArray, List.set_cons_succ, List.set_cons_zero])
  refine rg_val _ rfl rfl (fun _ _ h k => ⟨h.1.keeps k, h.2.trans (Only.of k)⟩) ComeJ.keeps (fun Ls us V hV hu hb hJ => opRG_run (fun _ => trivial) (by rfl) ?_) ?_
  · obtain ⟨l_, r_, hW_⟩ := ComeJ.wat hJ
    clear hu hb hJ
    go_simp
    exact Keeps.refl _
  (try simp only [Act.put, List.setIfInBounds_toArray, List.set_cons_succ, List.set_cons_zero])
  refine rg_val _ rfl rfl (fun _ _ h k => ⟨h.1.keeps k, h.2.trans (Only.of k)⟩) ComeJ.keeps (fun Ls us V hV hu hb hJ => opRG_run (fun _ => trivial) (by rfl) ?_) ?_
  · obtain ⟨l_, r_, hW_⟩ := ComeJ.wat hJ
    clear hu hb hJ
    have k0 := hW_.c0
    go_simp
    exact Keeps.refl _
  (try simp only [Act.put, List.setIfInBounds_toArray, List.set_cons_succ, List.set_cons_zero])
  refine rg_val _ rfl rfl (fun _ _ h k => ⟨h.1.keeps k, h.2.trans (Only.of k)⟩) ComeJ.keeps (fun Ls us V hV hu hb hJ => opRG_run (fun _ => trivial) (by rfl) ?_) ?_
  · obtain ⟨l_, r_, hW_⟩ := ComeJ.wat hJ
    clear hu hb hJ
    go_simp
    exact Keeps.refl _
  (try simp only [Act.put, List.setIfInBounds_toArray, List.set_cons_succ, List.set_cons_zero])
  refine rg_val _ rfl rfl (fun _ _ h k => ⟨h.1.keeps k, h.2.trans (Only.of k)⟩) ComeJ.keeps (fun Ls us V hV hu hb hJ => opRG_run (fun _ => trivial) (by rfl) ?_) ?_
  · obtain ⟨l_, r_, hW_⟩ := ComeJ.wat hJ
    clear hu hb hJ
    go_simp
    exact Keeps.refl _
  (try simp only [Act.put, List.setIfInBounds_toArray, List.set_cons_succ, List.set_cons_zero])
  refine rg_val _ rfl rfl (fun _ _ h k => ⟨h.1.keeps k, h.2.trans (Only.of k)⟩) ComeJ.keeps (fun Ls us V hV hu hb hJ => opRG_run (fun _ => trivial) (by rfl) ?_) ?_
  · obtain ⟨l_, r_, hW_⟩ := ComeJ.wat hJ
    clear hu hb hJ
    have kw := hV.1.c0
    go_simp
    exact Keeps.refl _
  (try simp only [Act.put, List.setIfInBounds_toArray, List.set_cons_succ, List.set_cons_zero])
  refine rg_val _ rfl rfl (fun _ _ h k => ⟨h.1.keeps k, h.2.trans (Only.of k)⟩) ComeJ.keeps (fun Ls us V hV hu hb hJ => opRG_run (fun _ => trivial) (by rfl) ?_) ?_
  · obtain ⟨l_, r_, hW_⟩ := ComeJ.wat hJ
    clear hu hb hJ
    go_simp
    exact ⟨rfl, Keeps.refl _⟩
  (try simp only [Act.put, List.setIfInBounds_toArray, List.set_cons_succ, List.set_cons_zero])
  refine rg_val _ rfl rfl (fun _ _ h k => ⟨h.1.keeps k, h.2.trans (Only.of k)⟩) ComeJ.keeps (fun Ls us V hV hu hb hJ => opRG_run (fun _ => trivial) (by rfl) ?_) ?_
  · obtain ⟨l_, r_, hW_⟩ := ComeJ.wat hJ
    clear hu hb hJ
    go_simp
    exact Keeps.refl _
  (try simp only [Act.put, List.setIfInBounds_toArray, List.set_cons_succ, List.set_cons_zero])
  refine rg_val _ rfl rfl (fun _ _ h k => ⟨h.1.keeps k, h.2.trans (Only.of k)⟩) ComeJ.keeps (fun Ls us V hV hu hb hJ => opRG_run (fun _ => trivial) (by rfl) ?_) ?_
  · obtain ⟨l_, r_, hW_⟩ := ComeJ.wat hJ
    clear hu hb hJ
    go_simp
    exact Keeps.refl _
  (try simp only [Act.put, List.setIfInBounds_toArray, List.set_cons_succ, List.set_cons_zero])
  refine rg_both _ rfl (fun Ls us V hV hu hL hb hJ => opRG.mono (N := fun x w' => x = undef ∧ w' = V.setCell ⟨A, 1, none⟩ (.int .i64 v)) ?_ (opRG_run (fun _ => trivial) (by rfl) ?_)) ?_
  · rintro x w' ⟨rfl, rfl⟩
    exact ⟨rfl, ⟨hV.1.only (Only.set V 1 _) (Ne.symm HAB.out), hV.2.trans (Only.set V 1 _)⟩, ComeJ.put1 (a := Ls 6) (b := Ls 18) (c := Ls 21) hJ hL⟩
  · obtain ⟨l_, r_, hW_⟩ := ComeJ.wat hJ
    clear hu hb hJ hL
    have k1 := hW_.c1
    have fz1 := hW_.fz 1
    go_simp
  (try simp only [Act.put, List.setIfInBounds_toArray, List.set_cons_succ, List.set_cons_zero])
  refine rg_val _ rfl rfl (fun _ _ h k => ⟨h.1.keeps k, h.2.trans (Only.of k)⟩) ComeJ.keeps (fun Ls us V hV hu hb hJ => opRG_run (fun _ => trivial) (by rfl) ?_) ?_
  · obtain ⟨l_, r_, hW_⟩ := ComeJ.wat hJ
    clear hu hb hJ
    go_simp
    exact Keeps.refl _
  (try simp only [Act.put, List.setIfInBounds_toArray, List.set_cons_succ, List.set_cons_zero])
  refine rg_val _ rfl rfl (fun _ _ h k => ⟨h.1.keeps k, h.2.trans (Only.of k)⟩) ComeJ.keeps (fun Ls us V hV hu hb hJ => opRG_run (fun _ => trivial) (by rfl) ?_) ?_
  · obtain ⟨l_, r_, hW_⟩ := ComeJ.wat hJ
    clear hu hb hJ
    go_simp
    exact Keeps.refl _
  (try simp only [Act.put, List.setIfInBounds_toArray, List.set_cons_succ, List.set_cons_zero])
  refine rg_both _ rfl (fun Ls us V hV hu hL hb hJ => opRG.mono (N := fun x w' => x = undef ∧ w' = V.setCell ⟨A, 2, none⟩ (.int .i64 (nextI wd r1))) ?_ (opRG_run (fun _ => trivial) (by rfl) ?_)) ?_
  · rintro x w' ⟨rfl, rfl⟩
    exact ⟨rfl, ⟨hV.1.only (Only.set V 2 _) (Ne.symm HAB.out), hV.2.trans (Only.set V 2 _)⟩, ComeJ.put2 (a := Ls 6) (b := Ls 18) (c := Ls 21) hJ (hb 6 (by kernel_rfl)) (hb 18 (by kernel_rfl))⟩
  · obtain ⟨l_, r_, hW_⟩ := ComeJ.wat hJ
    clear hu hb hJ hL
    have k2 := hW_.c2
    have fz2 := hW_.fz 2
    go_simp
  refine rgWalk.nil fun us V hV hu hJ => ?_
  obtain ⟨R2, O2⟩ := hV
  have W2 : Wat V A B v (nextI wd r1) := hJ.2
  clear hu hJ us W1 R1 O1
  gi_wp2
  go_wp2
  by_cases ht : (nextI wd r1) = wd
  · have hq : ((nextI wd r1) == wd) = true := beq_iff_eq.2 ht
    have hq2 : ((nextI wd r1) = wd) = True := eq_true ht
    have hq3 : decide ((nextI wd r1) = wd) = true := decide_eq_true ht
    clear ht
    refine (wpIn_wide (n := 0)).1 ?_
    have R3 : Room V.drew B wd bd ring at_ n := ⟨R2.block, R2.len⟩
    have W3 : Wat V.drew A B v (nextI wd r1) := W2
    refine wpIn_rg0 21 [some (.pointer (some ⟨A, 0, none⟩)), some (.pointer (some ⟨A, 0, none⟩)), some (.pointer (some ⟨A, 2, none⟩)), some (.int .i64 (nextI wd r1)), some (.pointer (some ⟨A, 0, none⟩)), some (.pointer (some ⟨A, 0, none⟩)), some (.pointer (some ⟨A, 0, none⟩)), some (.pointer (some ⟨B, 0, none⟩)), some (.pointer (some ⟨B, 0, none⟩)), some (.pointer (some ⟨B, 0, none⟩)), some (.int .i64 wd), some (.bool true), some (.bool true), some (.pointer (some ⟨A, 0, none⟩)), some (.pointer (some ⟨A, 0, none⟩)), some (.pointer (some ⟨A, 0, none⟩)), some (.pointer (some ⟨B, 0, none⟩)), some (.bool (movedB wd bd at_ n ring)), some (.bool (movedB wd bd at_ n ring)), some (.bool (movedB wd bd at_ n ring)), some (.int .i64 0)] (by kernel_rfl) (by kernel_rfl) ?_
    simp only [List.take_succ_cons, List.take_zero, List.drop_succ_cons, List.drop_zero]
    (try simp only [Act.put, List.setIfInBounds_toArray, List.set_cons_succ, List.set_cons_zero])
    refine rg_val0 _ rfl (fun V hV => opRG_run (fun _ => trivial) (by rfl) ?_) ?_
    · go_simp
      exact Keeps.refl _
    (try simp only [Act.put, List.setIfInBounds_toArray, List.set_cons_succ, List.set_cons_zero])
    refine rg_val0 _ rfl (fun V hV => opRG_run (fun _ => trivial) (by rfl) ?_) ?_
    · go_simp
      exact Keeps.refl _
    (try simp only [Act.put, List.setIfInBounds_toArray, List.set_cons_succ, List.set_cons_zero])
    refine rg_val0 _ rfl (fun V hV => opRG_run (fun _ => trivial) (by rfl) ?_) ?_
    · go_simp
      exact Keeps.refl _
    (try simp only [Act.put, List.setIfInBounds_toArray, List.set_cons_succ, List.set_cons_zero])
    refine rg_val0 _ rfl (fun V hV => opRG_run (fun _ => trivial) (by rfl) ?_) ?_
    · have k2 := (W3.keeps hV).c2
      go_simp
      exact Keeps.refl _
    (try simp only [Act.put, List.setIfInBounds_toArray, List.set_cons_succ, List.set_cons_zero])
    refine rg_val0 _ rfl (fun V hV => opRG_run (fun _ => trivial) (by rfl) ?_) ?_
    · go_simp
      exact Keeps.refl _
    (try simp only [Act.put, List.setIfInBounds_toArray, List.set_cons_succ, List.set_cons_zero])
    refine rg_val0 _ rfl (fun V hV => opRG_run (fun _ => trivial) (by rfl) ?_) ?_
    · go_simp
      exact Keeps.refl _
    (try simp only [Act.put, List.setIfInBounds_toArray, List.set_cons_succ, List.set_cons_zero])
    refine rg_val0 _ rfl (fun V hV => opRG_run (fun _ => trivial) (by rfl) ?_) ?_
    · go_simp
      exact Keeps.refl _
    (try simp only [Act.put, List.setIfInBounds_toArray, List.set_cons_succ, List.set_cons_zero])
    refine rg_val0 _ rfl (fun V hV => opRG_run (fun _ => trivial) (by rfl) ?_) ?_
    · have k0 := (W3.keeps hV).c0
      go_simp
      exact Keeps.refl _
    (try simp only [Act.put, List.setIfInBounds_toArray, List.set_cons_succ, List.set_cons_zero])
    refine rg_val0 _ rfl (fun V hV => opRG_run (fun _ => trivial) (by rfl) ?_) ?_
    · go_simp
      exact Keeps.refl _
    (try simp only [Act.put, List.setIfInBounds_toArray, List.set_cons_succ, List.set_cons_zero])
    refine rg_val0 _ rfl (fun V hV => opRG_run (fun _ => trivial) (by rfl) ?_) ?_
    · go_simp
      exact Keeps.refl _
    (try simp only [Act.put, List.setIfInBounds_toArray, List.set_cons_succ, List.set_cons_zero])
    refine rg_val0 _ rfl (fun V hV => opRG_run (fun _ => trivial) (by rfl) ?_) ?_
    · have kw := (R3.keeps hV).c0
      go_simp
      exact Keeps.refl _
    (try simp only [Act.put, List.setIfInBounds_toArray, List.set_cons_succ, List.set_cons_zero])
    refine rg_val0 _ rfl (fun V hV => opRG_run (fun _ => trivial) (by rfl) ?_) ?_
    · go_simp
      exact Keeps.refl _
    (try simp only [Act.put, List.setIfInBounds_toArray, List.set_cons_succ, List.set_cons_zero])
    refine rg_val0 _ rfl (fun V hV => opRG_run (fun _ => trivial) (by rfl) ?_) ?_
    · go_simp
      exact Keeps.refl _
    (try simp only [Act.put, List.setIfInBounds_toArray, List.set_cons_succ, List.set_cons_zero])
    refine rg_val0 _ rfl (fun V hV => opRG_run (fun _ => trivial) (by rfl) ?_) ?_
    · go_simp
      exact Keeps.refl _
    (try simp only [Act.put, List.setIfInBounds_toArray, List.set_cons_succ, List.set_cons_zero])
    refine rg_val0 _ rfl (fun V hV => opRG_run (fun _ => trivial) (by rfl) ?_) ?_
    · go_simp
      exact Keeps.refl _
    (try simp only [Act.put, List.setIfInBounds_toArray, List.set_cons_succ, List.set_cons_zero])
    refine rg_val0 _ rfl (fun V hV => opRG_run (fun _ => trivial) (by rfl) ?_) ?_
    · go_simp
      exact Keeps.refl _
    (try simp only [Act.put, List.setIfInBounds_toArray, List.set_cons_succ, List.set_cons_zero])
    refine rg_val0 _ rfl (fun V hV => opRG_run (fun _ => trivial) (by rfl) ?_) ?_
    · have k0 := (W3.keeps hV).c0
      go_simp
      exact Keeps.refl _
    (try simp only [Act.put, List.setIfInBounds_toArray, List.set_cons_succ, List.set_cons_zero])
    refine rg_val0 _ rfl (fun V hV => opRG_run (fun _ => trivial) (by rfl) ?_) ?_
    · go_simp
      refine ⟨by first | rfl | (intro h; cases h), callsIn_wide.2 ((moved_ok B wd bd at_ n ring V (R3.keeps hV) HW.out HA.out HN.out).mono ?_)⟩
      rintro e w2 ⟨rfl, hk⟩
      exact ⟨_, rfl, rfl, hk⟩
    (try simp only [Act.put, List.setIfInBounds_toArray, List.set_cons_succ, List.set_cons_zero])
    refine rg_val0 _ rfl (fun V hV => opRG_run (fun _ => trivial) (by rfl) ?_) ?_
    · go_simp
      exact Keeps.refl _
    (try simp only [Act.put, List.setIfInBounds_toArray, List.set_cons_succ, List.set_cons_zero])
    refine rg_val0 _ rfl (fun V hV => opRG_run (fun _ => trivial) (by rfl) ?_) ?_
    · go_simp
      exact Keeps.refl _
    (try simp only [Act.put, List.setIfInBounds_toArray, List.set_cons_succ, List.set_cons_zero])
    refine rg_val0 _ rfl (fun V hV => opRG_run (fun _ => trivial) (by rfl) ?_) ?_
    · go_simp
      exact Keeps.refl _
    refine rgWalk.nil fun us V4 hV hu hJ => ?_
    clear hu hJ us
    gi_wp2
    go_wp2
    go_returns
    have hV' : Below V.heap.size V V4 := ⟨hV.os, hV.tape, hV.output, hV.size, hV.block⟩
    exact ⟨by rw [hq3, Bool.true_and]; rfl, W3.keeps hV, O2.trans (Only.of hV')⟩
  · have hq : ((nextI wd r1) == wd) = false := beq_eq_false_iff_ne.2 ht
    have hq2 : ((nextI wd r1) = wd) = False := eq_false ht
    have hq3 : decide ((nextI wd r1) = wd) = false := decide_eq_false ht
    clear ht
    refine (wpIn_wide (n := 0)).1 ?_
    have R3 : Room V.drew B wd bd ring at_ n := ⟨R2.block, R2.len⟩
    have W3 : Wat V.drew A B v (nextI wd r1) := W2
    refine wpIn_rg0 21 [some (.pointer (some ⟨A, 0, none⟩)), some (.pointer (some ⟨A, 0, none⟩)), some (.pointer (some ⟨A, 2, none⟩)), some (.int .i64 (nextI wd r1)), some (.pointer (some ⟨A, 0, none⟩)), some (.pointer (some ⟨A, 0, none⟩)), some (.pointer (some ⟨A, 0, none⟩)), some (.pointer (some ⟨B, 0, none⟩)), some (.pointer (some ⟨B, 0, none⟩)), some (.pointer (some ⟨B, 0, none⟩)), some (.int .i64 wd), some (.bool false), some (.bool false), some (undef), some (undef), some (undef), some (undef), some (undef), some (.bool false), some (.bool false), some (.int .i64 0)] (by kernel_rfl) (by kernel_rfl) ?_
    simp only [List.take_succ_cons, List.take_zero, List.drop_succ_cons, List.drop_zero]
    (try simp only [Act.put, List.setIfInBounds_toArray, List.set_cons_succ, List.set_cons_zero])
    refine rg_val0 _ rfl (fun V hV => opRG_run (fun _ => trivial) (by rfl) ?_) ?_
    · go_simp
      exact Keeps.refl _
    (try simp only [Act.put, List.setIfInBounds_toArray, List.set_cons_succ, List.set_cons_zero])
    refine rg_val0 _ rfl (fun V hV => opRG_run (fun _ => trivial) (by rfl) ?_) ?_
    · go_simp
      exact Keeps.refl _
    (try simp only [Act.put, List.setIfInBounds_toArray, List.set_cons_succ, List.set_cons_zero])
    refine rg_val0 _ rfl (fun V hV => opRG_run (fun _ => trivial) (by rfl) ?_) ?_
    · go_simp
      exact Keeps.refl _
    (try simp only [Act.put, List.setIfInBounds_toArray, List.set_cons_succ, List.set_cons_zero])
    refine rg_val0 _ rfl (fun V hV => opRG_run (fun _ => trivial) (by rfl) ?_) ?_
    · have k2 := (W3.keeps hV).c2
      go_simp
      exact Keeps.refl _
    (try simp only [Act.put, List.setIfInBounds_toArray, List.set_cons_succ, List.set_cons_zero])
    refine rg_val0 _ rfl (fun V hV => opRG_run (fun _ => trivial) (by rfl) ?_) ?_
    · go_simp
      exact Keeps.refl _
    (try simp only [Act.put, List.setIfInBounds_toArray, List.set_cons_succ, List.set_cons_zero])
    refine rg_val0 _ rfl (fun V hV => opRG_run (fun _ => trivial) (by rfl) ?_) ?_
    · go_simp
      exact Keeps.refl _
    (try simp only [Act.put, List.setIfInBounds_toArray, List.set_cons_succ, List.set_cons_zero])
    refine rg_val0 _ rfl (fun V hV => opRG_run (fun _ => trivial) (by rfl) ?_) ?_
    · go_simp
      exact Keeps.refl _
    (try simp only [Act.put, List.setIfInBounds_toArray, List.set_cons_succ, List.set_cons_zero])
    refine rg_val0 _ rfl (fun V hV => opRG_run (fun _ => trivial) (by rfl) ?_) ?_
    · have k0 := (W3.keeps hV).c0
      go_simp
      exact Keeps.refl _
    (try simp only [Act.put, List.setIfInBounds_toArray, List.set_cons_succ, List.set_cons_zero])
    refine rg_val0 _ rfl (fun V hV => opRG_run (fun _ => trivial) (by rfl) ?_) ?_
    · go_simp
      exact Keeps.refl _
    (try simp only [Act.put, List.setIfInBounds_toArray, List.set_cons_succ, List.set_cons_zero])
    refine rg_val0 _ rfl (fun V hV => opRG_run (fun _ => trivial) (by rfl) ?_) ?_
    · go_simp
      exact Keeps.refl _
    (try simp only [Act.put, List.setIfInBounds_toArray, List.set_cons_succ, List.set_cons_zero])
    refine rg_val0 _ rfl (fun V hV => opRG_run (fun _ => trivial) (by rfl) ?_) ?_
    · have kw := (R3.keeps hV).c0
      go_simp
      exact Keeps.refl _
    (try simp only [Act.put, List.setIfInBounds_toArray, List.set_cons_succ, List.set_cons_zero])
    refine rg_val0 _ rfl (fun V hV => opRG_run (fun _ => trivial) (by rfl) ?_) ?_
    · go_simp
      exact Keeps.refl _
    (try simp only [Act.put, List.setIfInBounds_toArray, List.set_cons_succ, List.set_cons_zero])
    refine rg_val0 _ rfl (fun V hV => opRG_run (fun _ => trivial) (by rfl) ?_) ?_
    · go_simp
      exact Keeps.refl _
    (try simp only [Act.put, List.setIfInBounds_toArray, List.set_cons_succ, List.set_cons_zero])
    refine rg_val0 _ rfl (fun V hV => opRG_not (fun _ => trivial) (by rfl) ⟨rfl, Keeps.refl _⟩) ?_
    (try simp only [Act.put, List.setIfInBounds_toArray, List.set_cons_succ, List.set_cons_zero])
    refine rg_val0 _ rfl (fun V hV => opRG_not (fun _ => trivial) (by rfl) ⟨rfl, Keeps.refl _⟩) ?_
    (try simp only [Act.put, List.setIfInBounds_toArray, List.set_cons_succ, List.set_cons_zero])
    refine rg_val0 _ rfl (fun V hV => opRG_not (fun _ => trivial) (by rfl) ⟨rfl, Keeps.refl _⟩) ?_
    (try simp only [Act.put, List.setIfInBounds_toArray, List.set_cons_succ, List.set_cons_zero])
    refine rg_val0 _ rfl (fun V hV => opRG_not (fun _ => trivial) (by rfl) ⟨rfl, Keeps.refl _⟩) ?_
    (try simp only [Act.put, List.setIfInBounds_toArray, List.set_cons_succ, List.set_cons_zero])
    refine rg_val0 _ rfl (fun V hV => opRG_not (fun _ => trivial) (by rfl) ⟨rfl, Keeps.refl _⟩) ?_
    (try simp only [Act.put, List.setIfInBounds_toArray, List.set_cons_succ, List.set_cons_zero])
    refine rg_val0 _ rfl (fun V hV => opRG_run (fun _ => trivial) (by rfl) ?_) ?_
    · go_simp
      exact Keeps.refl _
    (try simp only [Act.put, List.setIfInBounds_toArray, List.set_cons_succ, List.set_cons_zero])
    refine rg_val0 _ rfl (fun V hV => opRG_run (fun _ => trivial) (by rfl) ?_) ?_
    · go_simp
      exact Keeps.refl _
    (try simp only [Act.put, List.setIfInBounds_toArray, List.set_cons_succ, List.set_cons_zero])
    refine rg_val0 _ rfl (fun V hV => opRG_run (fun _ => trivial) (by rfl) ?_) ?_
    · go_simp
      exact Keeps.refl _
    refine rgWalk.nil fun us V4 hV hu hJ => ?_
    clear hu hJ us
    gi_wp2
    go_wp2
    go_returns
    have hV' : Below V.heap.size V V4 := ⟨hV.os, hV.tape, hV.output, hV.size, hV.block⟩
    exact ⟨by rw [hq3, Bool.false_and]; rfl, W3.keeps hV, O2.trans (Only.of hV')⟩

set_option maxRecDepth 100000 in
set_option maxHeartbeats 4000000 in
theorem come_b (A B : Nat) (wd bd at_ n v last run r1 : Int) (ring : List Int) (w : World) (h : Room w B wd bd ring at_ n) (hwa : Wat w A B last run) (hab : A ≠ B) (hw : 2 ≤ wd ∧ wd ≤ 16) (ha : 0 ≤ at_ ∧ at_ < wd - 1) (hn : 0 ≤ n ∧ n ≤ wd - 1) (hr : 0 ≤ run ∧ run ≤ wd) (hv : rightI v = true) (hc : run = 0 ∧ r1 = 0) :
    Calls Try.prog 47 #[.pointer (some ⟨A, 0, none⟩), .int .i64 v] w fun e w' => e = .returned (.tuple #[.bool (decide (nextI wd r1 = wd) && movedB wd bd at_ n ring), .int .i64 0]) ∧ Wat w' A B v (nextI wd r1) ∧ Only A w w' := by
  have hu := Try.underlying127
  have hu2 := Try.underlying129
  have HV := Aside0.mk hv
  have HW := Aside0.mk hw
  have HA := Aside0.mk ha
  have HN := Aside0.mk hn
  have H0 := Aside0.mk h
  have HA0 := Aside0.mk hwa
  have HAB := Aside0.mk hab
  obtain ⟨rfl, rfl⟩ := hc
  have hwr2 : IntKind.i64.wrap 1 = 1 := by decide
  clear h hwa hw ha hn hr hv hab
  go_enter Try.func47, Try.ntmps47
  have a1 := HA0.out.c1
  have a2 := HA0.out.c2
  have f2 := HA0.out.fz 2
  go_wp2_with (go_at_call 86; refine (stuck_right.calls _ _ _ (by rw [right_eq, HV.out])).mono ?_; rintro e w1 ⟨rfl, ⟨q, rfl⟩⟩; have a1 : (w.drewN q).cell? ⟨A, 1, none⟩ = some (.int .i64 last) := HA0.out.c1; have a2 : (w.drewN q).cell? ⟨A, 2, none⟩ = some (.int .i64 0) := HA0.out.c2; have f2 : (w.drewN q).frozen? ⟨A, 2, none⟩ = false := HA0.out.fz 2)
  have R0 : Room (w.drewN q) B wd bd ring at_ n := ⟨H0.out.block, H0.out.len⟩
  have W0 : Wat (w.drewN q) A B last 0 := HA0.out
  have O0 : Only A w (w.drewN q) := Only.of (drewN_below w q)
  have W0' := W0.setRun 0
  have O0' := O0.trans (Only.set (w.drewN q) 2 (.int .i64 0))
  have R0' := R0.only (Only.set (B := A) (w.drewN q) 2 (.int .i64 0)) (Ne.symm HAB.out)
  clear R0 W0 O0 a1 a2 f2
  generalize (w.drewN q).setCell ⟨A, 2, none⟩ (.int .i64 0) = w2 at R0' W0' O0' ⊢
  have R0 := R0'
  have W0 := W0'
  have O0 := O0'
  refine (wpIn_wide (n := 0)).1 ?_
  have R1 : Room w2.drew B wd bd ring at_ n := ⟨R0.block, R0.len⟩
  have W1 : Wat w2.drew A B last 0 := W0
  have O1 : Only A w w2.drew := ⟨O0.os, O0.tape, O0.output, O0.size, O0.block⟩
  clear R0 W0 O0
  refine wpIn_region_rg 22 (by kernel_rfl) (by kernel_rfl) (fun V => Room V B wd bd ring at_ n ∧ Only A w V) [6, 18, 21] (ComeJ A B last v 0 (nextI wd 0)) (tellOf [some (.pointer (some ⟨A, 0, none⟩)), some (.pointer (some ⟨A, 0, none⟩)), some (.int .i64 v), some (.pointer (some ⟨A, 0, none⟩)), some (.pointer (some ⟨A, 0, none⟩)), some (.pointer (some ⟨A, 2, none⟩)), some (.int .i64 0), some (.int .i64 (0 + 1)), some (.pointer (some ⟨A, 0, none⟩)), some (.pointer (some ⟨A, 0, none⟩)), some (.pointer (some ⟨A, 0, none⟩)), some (.pointer (some ⟨B, 0, none⟩)), some (.pointer (some ⟨B, 0, none⟩)), some (.pointer (some ⟨B, 0, none⟩)), some (.int .i64 wd), some (.int .i64 (nextI wd 0)), some (.pointer (some ⟨A, 0, none⟩)), some (.pointer (some ⟨A, 1, none⟩)), some (undef), some (.pointer (some ⟨A, 0, none⟩)), some (.pointer (some ⟨A, 2, none⟩)), some (undef)]) (by decide) ⟨R1, O1⟩ (fun us => ⟨fun e => absurd e (by simp), W1⟩) ?_
  simp only [List.take_succ_cons, List.take_zero, List.drop_succ_cons, List.drop_zero]
  (try simp only [Act.put, List.setIfInBounds_toArray, List.set_cons_succ, List.set_cons_zero])
  refine rg_val _ rfl rfl (fun _ _ h k => ⟨h.1.keeps k, h.2.trans (Only.of k)⟩) ComeJ.keeps (fun Ls us V hV hu hb hJ => opRG_run (fun _ => trivial) (by rfl) ?_) ?_
  · obtain ⟨l_, r_, hW_⟩ := ComeJ.wat hJ
    clear hu hb hJ
    go_simp
    exact Keeps.refl _
  (try simp only [Act.put, List.setIfInBounds_toArray, List.set_cons_succ, List.set_cons_zero])
  refine rg_val _ rfl rfl (fun _ _ h k => ⟨h.1.keeps k, h.2.trans (Only.of k)⟩) ComeJ.keeps (fun Ls us V hV hu hb hJ => opRG_run (fun _ => trivial) (by rfl) ?_) ?_
  · obtain ⟨l_, r_, hW_⟩ := ComeJ.wat hJ
    clear hu hb hJ
    go_simp
    exact Keeps.refl _
  (try simp only [Act.put, List.setIfInBounds_toArray, List.set_cons_succ, List.set_cons_zero])
  refine rg_val _ rfl rfl (fun _ _ h k => ⟨h.1.keeps k, h.2.trans (Only.of k)⟩) ComeJ.keeps (fun Ls us V hV hu hb hJ => opRG_run (fun _ => trivial) (by rfl) ?_) ?_
  · obtain ⟨l_, r_, hW_⟩ := ComeJ.wat hJ
    clear hu hb hJ
    go_simp
    exact Keeps.refl _
  (try simp only [Act.put, List.setIfInBounds_toArray, List.set_cons_succ, List.set_cons_zero])
  refine rg_val _ rfl rfl (fun _ _ h k => ⟨h.1.keeps k, h.2.trans (Only.of k)⟩) ComeJ.keeps (fun Ls us V hV hu hb hJ => opRG_run (fun _ => trivial) (by rfl) ?_) ?_
  · obtain ⟨l_, r_, hW_⟩ := ComeJ.wat hJ
    clear hu hb hJ
    go_simp
    exact Keeps.refl _
  (try simp only [Act.put, List.setIfInBounds_toArray, List.set_cons_succ, List.set_cons_zero])
  refine rg_val _ rfl rfl (fun _ _ h k => ⟨h.1.keeps k, h.2.trans (Only.of k)⟩) ComeJ.keeps (fun Ls us V hV hu hb hJ => opRG_run (fun _ => trivial) (by rfl) ?_) ?_
  · obtain ⟨l_, r_, hW_⟩ := ComeJ.wat hJ
    clear hu hb hJ
    go_simp
    exact Keeps.refl _
  (try simp only [Act.put, List.setIfInBounds_toArray, List.set_cons_succ, List.set_cons_zero])
  refine rg_val _ rfl rfl (fun _ _ h k => ⟨h.1.keeps k, h.2.trans (Only.of k)⟩) ComeJ.keeps (fun Ls us V hV hu hb hJ => opRG_run (fun _ => trivial) (by rfl) ?_) ?_
  · obtain ⟨l_, r_, hW_⟩ := ComeJ.wat hJ
    clear hu hb hJ
    go_simp
    exact Keeps.refl _
  (try simp only [Act.put, List.setIfInBounds_toArray, List.set_cons_succ, List.set_cons_zero])
  refine rg_both _ rfl (fun Ls us V hV hu hL hb hJ => opRG.mono (N := fun v w' => v = .int .i64 0 ∧ w' = V) ?_ (opRG_run (fun _ => trivial) (by rfl) ?_)) ?_
  · rintro v w' ⟨rfl, rfl⟩
    exact ⟨rfl, hV, ComeJ.load (a := Ls 6) (b := Ls 18) (c := Ls 21) hJ hL⟩
  · obtain ⟨l_, hW_⟩ := ComeJ.run (a := Ls 6) (b := Ls 18) (c := Ls 21) hJ hL
    clear hu hb hJ hL
    have k2 := hW_.c2
    go_simp
  (try simp only [Act.put, List.setIfInBounds_toArray, List.set_cons_succ, List.set_cons_zero])
  refine rg_val _ rfl rfl (fun _ _ h k => ⟨h.1.keeps k, h.2.trans (Only.of k)⟩) ComeJ.keeps (fun Ls us V hV hu hb hJ => opRG_run (fun _ => trivial) (by rfl) ?_) ?_
  · obtain ⟨l_, r_, hW_⟩ := ComeJ.wat hJ
    clear hu hb hJ
    go_simp
    exact Keeps.refl _
  (try simp only [Act.put, List.setIfInBounds_toArray, List.set_cons_succ, List.set_cons_zero])
  refine rg_val _ rfl rfl (fun _ _ h k => ⟨h.1.keeps k, h.2.trans (Only.of k)⟩) ComeJ.keeps (fun Ls us V hV hu hb hJ => opRG_run (fun _ => trivial) (by rfl) ?_) ?_
  · obtain ⟨l_, r_, hW_⟩ := ComeJ.wat hJ
    clear hu hb hJ
    go_simp
    exact Keeps.refl _
  (try simp only [Act.put, List.setIfInBounds_toArray, List.set_cons_succ, List.set_cons_zero])
  refine rg_val _ rfl rfl (fun _ _ h k => ⟨h.1.keeps k, h.2.trans (Only.of k)⟩) ComeJ.keeps (fun Ls us V hV hu hb hJ => opRG_run (fun _ => trivial) (by rfl) ?_) ?_
  · obtain ⟨l_, r_, hW_⟩ := ComeJ.wat hJ
    clear hu hb hJ
    go_simp
    exact Keeps.refl _
  (try simp only [Act.put, List.setIfInBounds_toArray, List.set_cons_succ, List.set_cons_zero])
  refine rg_val _ rfl rfl (fun _ _ h k => ⟨h.1.keeps k, h.2.trans (Only.of k)⟩) ComeJ.keeps (fun Ls us V hV hu hb hJ => opRG_run (fun _ => trivial) (by rfl) ?_) ?_
  · obtain ⟨l_, r_, hW_⟩ := ComeJ.wat hJ
    clear hu hb hJ
    go_simp
    exact Keeps.refl _
  (try simp only [Act.put, List.setIfInBounds_toArray, List.set_cons_succ, List.set_cons_zero])
  refine rg_val _ rfl rfl (fun _ _ h k => ⟨h.1.keeps k, h.2.trans (Only.of k)⟩) ComeJ.keeps (fun Ls us V hV hu hb hJ => opRG_run (fun _ => trivial) (by rfl) ?_) ?_
  · obtain ⟨l_, r_, hW_⟩ := ComeJ.wat hJ
    clear hu hb hJ
    have k0 := hW_.c0
    go_simp
    exact Keeps.refl _
  (try simp only [Act.put, List.setIfInBounds_toArray, List.set_cons_succ, List.set_cons_zero])
  refine rg_val _ rfl rfl (fun _ _ h k => ⟨h.1.keeps k, h.2.trans (Only.of k)⟩) ComeJ.keeps (fun Ls us V hV hu hb hJ => opRG_run (fun _ => trivial) (by rfl) ?_) ?_
  · obtain ⟨l_, r_, hW_⟩ := ComeJ.wat hJ
    clear hu hb hJ
    go_simp
    exact Keeps.refl _
  (try simp only [Act.put, List.setIfInBounds_toArray, List.set_cons_succ, List.set_cons_zero])
  refine rg_val _ rfl rfl (fun _ _ h k => ⟨h.1.keeps k, h.2.trans (Only.of k)⟩) ComeJ.keeps (fun Ls us V hV hu hb hJ => opRG_run (fun _ => trivial) (by rfl) ?_) ?_
  · obtain ⟨l_, r_, hW_⟩ := ComeJ.wat hJ
    clear hu hb hJ
    go_simp
    exact Keeps.refl _
  (try simp only [Act.put, List.setIfInBounds_toArray, List.set_cons_succ, List.set_cons_zero])
  refine rg_val _ rfl rfl (fun _ _ h k => ⟨h.1.keeps k, h.2.trans (Only.of k)⟩) ComeJ.keeps (fun Ls us V hV hu hb hJ => opRG_run (fun _ => trivial) (by rfl) ?_) ?_
  · obtain ⟨l_, r_, hW_⟩ := ComeJ.wat hJ
    clear hu hb hJ
    have kw := hV.1.c0
    go_simp
    exact Keeps.refl _
  (try simp only [Act.put, List.setIfInBounds_toArray, List.set_cons_succ, List.set_cons_zero])
  refine rg_val _ rfl rfl (fun _ _ h k => ⟨h.1.keeps k, h.2.trans (Only.of k)⟩) ComeJ.keeps (fun Ls us V hV hu hb hJ => opRG_run (fun _ => trivial) (by rfl) ?_) ?_
  · obtain ⟨l_, r_, hW_⟩ := ComeJ.wat hJ
    clear hu hb hJ
    go_simp
    exact ⟨rfl, Keeps.refl _⟩
  (try simp only [Act.put, List.setIfInBounds_toArray, List.set_cons_succ, List.set_cons_zero])
  refine rg_val _ rfl rfl (fun _ _ h k => ⟨h.1.keeps k, h.2.trans (Only.of k)⟩) ComeJ.keeps (fun Ls us V hV hu hb hJ => opRG_run (fun _ => trivial) (by rfl) ?_) ?_
  · obtain ⟨l_, r_, hW_⟩ := ComeJ.wat hJ
    clear hu hb hJ
    go_simp
    exact Keeps.refl _
  (try simp only [Act.put, List.setIfInBounds_toArray, List.set_cons_succ, List.set_cons_zero])
  refine rg_val _ rfl rfl (fun _ _ h k => ⟨h.1.keeps k, h.2.trans (Only.of k)⟩) ComeJ.keeps (fun Ls us V hV hu hb hJ => opRG_run (fun _ => trivial) (by rfl) ?_) ?_
  · obtain ⟨l_, r_, hW_⟩ := ComeJ.wat hJ
    clear hu hb hJ
    go_simp
    exact Keeps.refl _
  (try simp only [Act.put, List.setIfInBounds_toArray, List.set_cons_succ, List.set_cons_zero])
  refine rg_both _ rfl (fun Ls us V hV hu hL hb hJ => opRG.mono (N := fun x w' => x = undef ∧ w' = V.setCell ⟨A, 1, none⟩ (.int .i64 v)) ?_ (opRG_run (fun _ => trivial) (by rfl) ?_)) ?_
  · rintro x w' ⟨rfl, rfl⟩
    exact ⟨rfl, ⟨hV.1.only (Only.set V 1 _) (Ne.symm HAB.out), hV.2.trans (Only.set V 1 _)⟩, ComeJ.put1 (a := Ls 6) (b := Ls 18) (c := Ls 21) hJ hL⟩
  · obtain ⟨l_, r_, hW_⟩ := ComeJ.wat hJ
    clear hu hb hJ hL
    have k1 := hW_.c1
    have fz1 := hW_.fz 1
    go_simp
  (try simp only [Act.put, List.setIfInBounds_toArray, List.set_cons_succ, List.set_cons_zero])
  refine rg_val _ rfl rfl (fun _ _ h k => ⟨h.1.keeps k, h.2.trans (Only.of k)⟩) ComeJ.keeps (fun Ls us V hV hu hb hJ => opRG_run (fun _ => trivial) (by rfl) ?_) ?_
  · obtain ⟨l_, r_, hW_⟩ := ComeJ.wat hJ
    clear hu hb hJ
    go_simp
    exact Keeps.refl _
  (try simp only [Act.put, List.setIfInBounds_toArray, List.set_cons_succ, List.set_cons_zero])
  refine rg_val _ rfl rfl (fun _ _ h k => ⟨h.1.keeps k, h.2.trans (Only.of k)⟩) ComeJ.keeps (fun Ls us V hV hu hb hJ => opRG_run (fun _ => trivial) (by rfl) ?_) ?_
  · obtain ⟨l_, r_, hW_⟩ := ComeJ.wat hJ
    clear hu hb hJ
    go_simp
    exact Keeps.refl _
  (try simp only [Act.put, List.setIfInBounds_toArray, List.set_cons_succ, List.set_cons_zero])
  refine rg_both _ rfl (fun Ls us V hV hu hL hb hJ => opRG.mono (N := fun x w' => x = undef ∧ w' = V.setCell ⟨A, 2, none⟩ (.int .i64 (nextI wd 0))) ?_ (opRG_run (fun _ => trivial) (by rfl) ?_)) ?_
  · rintro x w' ⟨rfl, rfl⟩
    exact ⟨rfl, ⟨hV.1.only (Only.set V 2 _) (Ne.symm HAB.out), hV.2.trans (Only.set V 2 _)⟩, ComeJ.put2 (a := Ls 6) (b := Ls 18) (c := Ls 21) hJ (hb 6 (by kernel_rfl)) (hb 18 (by kernel_rfl))⟩
  · obtain ⟨l_, r_, hW_⟩ := ComeJ.wat hJ
    clear hu hb hJ hL
    have k2 := hW_.c2
    have fz2 := hW_.fz 2
    go_simp
  refine rgWalk.nil fun us V hV hu hJ => ?_
  obtain ⟨R2, O2⟩ := hV
  have W2 : Wat V A B v (nextI wd 0) := hJ.2
  clear hu hJ us W1 R1 O1
  gi_wp2
  go_wp2
  by_cases ht : (nextI wd 0) = wd
  · have hq : ((nextI wd 0) == wd) = true := beq_iff_eq.2 ht
    have hq2 : ((nextI wd 0) = wd) = True := eq_true ht
    have hq3 : decide ((nextI wd 0) = wd) = true := decide_eq_true ht
    clear ht
    refine (wpIn_wide (n := 0)).1 ?_
    have R3 : Room V.drew B wd bd ring at_ n := ⟨R2.block, R2.len⟩
    have W3 : Wat V.drew A B v (nextI wd 0) := W2
    refine wpIn_rg0 21 [some (.pointer (some ⟨A, 0, none⟩)), some (.pointer (some ⟨A, 0, none⟩)), some (.pointer (some ⟨A, 2, none⟩)), some (.int .i64 (nextI wd 0)), some (.pointer (some ⟨A, 0, none⟩)), some (.pointer (some ⟨A, 0, none⟩)), some (.pointer (some ⟨A, 0, none⟩)), some (.pointer (some ⟨B, 0, none⟩)), some (.pointer (some ⟨B, 0, none⟩)), some (.pointer (some ⟨B, 0, none⟩)), some (.int .i64 wd), some (.bool true), some (.bool true), some (.pointer (some ⟨A, 0, none⟩)), some (.pointer (some ⟨A, 0, none⟩)), some (.pointer (some ⟨A, 0, none⟩)), some (.pointer (some ⟨B, 0, none⟩)), some (.bool (movedB wd bd at_ n ring)), some (.bool (movedB wd bd at_ n ring)), some (.bool (movedB wd bd at_ n ring)), some (.int .i64 0)] (by kernel_rfl) (by kernel_rfl) ?_
    simp only [List.take_succ_cons, List.take_zero, List.drop_succ_cons, List.drop_zero]
    (try simp only [Act.put, List.setIfInBounds_toArray, List.set_cons_succ, List.set_cons_zero])
    refine rg_val0 _ rfl (fun V hV => opRG_run (fun _ => trivial) (by rfl) ?_) ?_
    · go_simp
      exact Keeps.refl _
    (try simp only [Act.put, List.setIfInBounds_toArray, List.set_cons_succ, List.set_cons_zero])
    refine rg_val0 _ rfl (fun V hV => opRG_run (fun _ => trivial) (by rfl) ?_) ?_
    · go_simp
      exact Keeps.refl _
    (try simp only [Act.put, List.setIfInBounds_toArray, List.set_cons_succ, List.set_cons_zero])
    refine rg_val0 _ rfl (fun V hV => opRG_run (fun _ => trivial) (by rfl) ?_) ?_
    · go_simp
      exact Keeps.refl _
    (try simp only [Act.put, List.setIfInBounds_toArray, List.set_cons_succ, List.set_cons_zero])
    refine rg_val0 _ rfl (fun V hV => opRG_run (fun _ => trivial) (by rfl) ?_) ?_
    · have k2 := (W3.keeps hV).c2
      go_simp
      exact Keeps.refl _
    (try simp only [Act.put, List.setIfInBounds_toArray, List.set_cons_succ, List.set_cons_zero])
    refine rg_val0 _ rfl (fun V hV => opRG_run (fun _ => trivial) (by rfl) ?_) ?_
    · go_simp
      exact Keeps.refl _
    (try simp only [Act.put, List.setIfInBounds_toArray, List.set_cons_succ, List.set_cons_zero])
    refine rg_val0 _ rfl (fun V hV => opRG_run (fun _ => trivial) (by rfl) ?_) ?_
    · go_simp
      exact Keeps.refl _
    (try simp only [Act.put, List.setIfInBounds_toArray, List.set_cons_succ, List.set_cons_zero])
    refine rg_val0 _ rfl (fun V hV => opRG_run (fun _ => trivial) (by rfl) ?_) ?_
    · go_simp
      exact Keeps.refl _
    (try simp only [Act.put, List.setIfInBounds_toArray, List.set_cons_succ, List.set_cons_zero])
    refine rg_val0 _ rfl (fun V hV => opRG_run (fun _ => trivial) (by rfl) ?_) ?_
    · have k0 := (W3.keeps hV).c0
      go_simp
      exact Keeps.refl _
    (try simp only [Act.put, List.setIfInBounds_toArray, List.set_cons_succ, List.set_cons_zero])
    refine rg_val0 _ rfl (fun V hV => opRG_run (fun _ => trivial) (by rfl) ?_) ?_
    · go_simp
      exact Keeps.refl _
    (try simp only [Act.put, List.setIfInBounds_toArray, List.set_cons_succ, List.set_cons_zero])
    refine rg_val0 _ rfl (fun V hV => opRG_run (fun _ => trivial) (by rfl) ?_) ?_
    · go_simp
      exact Keeps.refl _
    (try simp only [Act.put, List.setIfInBounds_toArray, List.set_cons_succ, List.set_cons_zero])
    refine rg_val0 _ rfl (fun V hV => opRG_run (fun _ => trivial) (by rfl) ?_) ?_
    · have kw := (R3.keeps hV).c0
      go_simp
      exact Keeps.refl _
    (try simp only [Act.put, List.setIfInBounds_toArray, List.set_cons_succ, List.set_cons_zero])
    refine rg_val0 _ rfl (fun V hV => opRG_run (fun _ => trivial) (by rfl) ?_) ?_
    · go_simp
      exact Keeps.refl _
    (try simp only [Act.put, List.setIfInBounds_toArray, List.set_cons_succ, List.set_cons_zero])
    refine rg_val0 _ rfl (fun V hV => opRG_run (fun _ => trivial) (by rfl) ?_) ?_
    · go_simp
      exact Keeps.refl _
    (try simp only [Act.put, List.setIfInBounds_toArray, List.set_cons_succ, List.set_cons_zero])
    refine rg_val0 _ rfl (fun V hV => opRG_run (fun _ => trivial) (by rfl) ?_) ?_
    · go_simp
      exact Keeps.refl _
    (try simp only [Act.put, List.setIfInBounds_toArray, List.set_cons_succ, List.set_cons_zero])
    refine rg_val0 _ rfl (fun V hV => opRG_run (fun _ => trivial) (by rfl) ?_) ?_
    · go_simp
      exact Keeps.refl _
    (try simp only [Act.put, List.setIfInBounds_toArray, List.set_cons_succ, List.set_cons_zero])
    refine rg_val0 _ rfl (fun V hV => opRG_run (fun _ => trivial) (by rfl) ?_) ?_
    · go_simp
      exact Keeps.refl _
    (try simp only [Act.put, List.setIfInBounds_toArray, List.set_cons_succ, List.set_cons_zero])
    refine rg_val0 _ rfl (fun V hV => opRG_run (fun _ => trivial) (by rfl) ?_) ?_
    · have k0 := (W3.keeps hV).c0
      go_simp
      exact Keeps.refl _
    (try simp only [Act.put, List.setIfInBounds_toArray, List.set_cons_succ, List.set_cons_zero])
    refine rg_val0 _ rfl (fun V hV => opRG_run (fun _ => trivial) (by rfl) ?_) ?_
    · go_simp
      refine ⟨by first | rfl | (intro h; cases h), callsIn_wide.2 ((moved_ok B wd bd at_ n ring V (R3.keeps hV) HW.out HA.out HN.out).mono ?_)⟩
      rintro e w2 ⟨rfl, hk⟩
      exact ⟨_, rfl, rfl, hk⟩
    (try simp only [Act.put, List.setIfInBounds_toArray, List.set_cons_succ, List.set_cons_zero])
    refine rg_val0 _ rfl (fun V hV => opRG_run (fun _ => trivial) (by rfl) ?_) ?_
    · go_simp
      exact Keeps.refl _
    (try simp only [Act.put, List.setIfInBounds_toArray, List.set_cons_succ, List.set_cons_zero])
    refine rg_val0 _ rfl (fun V hV => opRG_run (fun _ => trivial) (by rfl) ?_) ?_
    · go_simp
      exact Keeps.refl _
    (try simp only [Act.put, List.setIfInBounds_toArray, List.set_cons_succ, List.set_cons_zero])
    refine rg_val0 _ rfl (fun V hV => opRG_run (fun _ => trivial) (by rfl) ?_) ?_
    · go_simp
      exact Keeps.refl _
    refine rgWalk.nil fun us V4 hV hu hJ => ?_
    clear hu hJ us
    gi_wp2
    go_wp2
    go_returns
    have hV' : Below V.heap.size V V4 := ⟨hV.os, hV.tape, hV.output, hV.size, hV.block⟩
    exact ⟨by rw [hq3, Bool.true_and]; rfl, W3.keeps hV, O2.trans (Only.of hV')⟩
  · have hq : ((nextI wd 0) == wd) = false := beq_eq_false_iff_ne.2 ht
    have hq2 : ((nextI wd 0) = wd) = False := eq_false ht
    have hq3 : decide ((nextI wd 0) = wd) = false := decide_eq_false ht
    clear ht
    refine (wpIn_wide (n := 0)).1 ?_
    have R3 : Room V.drew B wd bd ring at_ n := ⟨R2.block, R2.len⟩
    have W3 : Wat V.drew A B v (nextI wd 0) := W2
    refine wpIn_rg0 21 [some (.pointer (some ⟨A, 0, none⟩)), some (.pointer (some ⟨A, 0, none⟩)), some (.pointer (some ⟨A, 2, none⟩)), some (.int .i64 (nextI wd 0)), some (.pointer (some ⟨A, 0, none⟩)), some (.pointer (some ⟨A, 0, none⟩)), some (.pointer (some ⟨A, 0, none⟩)), some (.pointer (some ⟨B, 0, none⟩)), some (.pointer (some ⟨B, 0, none⟩)), some (.pointer (some ⟨B, 0, none⟩)), some (.int .i64 wd), some (.bool false), some (.bool false), some (undef), some (undef), some (undef), some (undef), some (undef), some (.bool false), some (.bool false), some (.int .i64 0)] (by kernel_rfl) (by kernel_rfl) ?_
    simp only [List.take_succ_cons, List.take_zero, List.drop_succ_cons, List.drop_zero]
    (try simp only [Act.put, List.setIfInBounds_toArray, List.set_cons_succ, List.set_cons_zero])
    refine rg_val0 _ rfl (fun V hV => opRG_run (fun _ => trivial) (by rfl) ?_) ?_
    · go_simp
      exact Keeps.refl _
    (try simp only [Act.put, List.setIfInBounds_toArray, List.set_cons_succ, List.set_cons_zero])
    refine rg_val0 _ rfl (fun V hV => opRG_run (fun _ => trivial) (by rfl) ?_) ?_
    · go_simp
      exact Keeps.refl _
    (try simp only [Act.put, List.setIfInBounds_toArray, List.set_cons_succ, List.set_cons_zero])
    refine rg_val0 _ rfl (fun V hV => opRG_run (fun _ => trivial) (by rfl) ?_) ?_
    · go_simp
      exact Keeps.refl _
    (try simp only [Act.put, List.setIfInBounds_toArray, List.set_cons_succ, List.set_cons_zero])
    refine rg_val0 _ rfl (fun V hV => opRG_run (fun _ => trivial) (by rfl) ?_) ?_
    · have k2 := (W3.keeps hV).c2
      go_simp
      exact Keeps.refl _
    (try simp only [Act.put, List.setIfInBounds_toArray, List.set_cons_succ, List.set_cons_zero])
    refine rg_val0 _ rfl (fun V hV => opRG_run (fun _ => trivial) (by rfl) ?_) ?_
    · go_simp
      exact Keeps.refl _
    (try simp only [Act.put, List.setIfInBounds_toArray, List.set_cons_succ, List.set_cons_zero])
    refine rg_val0 _ rfl (fun V hV => opRG_run (fun _ => trivial) (by rfl) ?_) ?_
    · go_simp
      exact Keeps.refl _
    (try simp only [Act.put, List.setIfInBounds_toArray, List.set_cons_succ, List.set_cons_zero])
    refine rg_val0 _ rfl (fun V hV => opRG_run (fun _ => trivial) (by rfl) ?_) ?_
    · go_simp
      exact Keeps.refl _
    (try simp only [Act.put, List.setIfInBounds_toArray, List.set_cons_succ, List.set_cons_zero])
    refine rg_val0 _ rfl (fun V hV => opRG_run (fun _ => trivial) (by rfl) ?_) ?_
    · have k0 := (W3.keeps hV).c0
      go_simp
      exact Keeps.refl _
    (try simp only [Act.put, List.setIfInBounds_toArray, List.set_cons_succ, List.set_cons_zero])
    refine rg_val0 _ rfl (fun V hV => opRG_run (fun _ => trivial) (by rfl) ?_) ?_
    · go_simp
      exact Keeps.refl _
    (try simp only [Act.put, List.setIfInBounds_toArray, List.set_cons_succ, List.set_cons_zero])
    refine rg_val0 _ rfl (fun V hV => opRG_run (fun _ => trivial) (by rfl) ?_) ?_
    · go_simp
      exact Keeps.refl _
    (try simp only [Act.put, List.setIfInBounds_toArray, List.set_cons_succ, List.set_cons_zero])
    refine rg_val0 _ rfl (fun V hV => opRG_run (fun _ => trivial) (by rfl) ?_) ?_
    · have kw := (R3.keeps hV).c0
      go_simp
      exact Keeps.refl _
    (try simp only [Act.put, List.setIfInBounds_toArray, List.set_cons_succ, List.set_cons_zero])
    refine rg_val0 _ rfl (fun V hV => opRG_run (fun _ => trivial) (by rfl) ?_) ?_
    · go_simp
      exact Keeps.refl _
    (try simp only [Act.put, List.setIfInBounds_toArray, List.set_cons_succ, List.set_cons_zero])
    refine rg_val0 _ rfl (fun V hV => opRG_run (fun _ => trivial) (by rfl) ?_) ?_
    · go_simp
      exact Keeps.refl _
    (try simp only [Act.put, List.setIfInBounds_toArray, List.set_cons_succ, List.set_cons_zero])
    refine rg_val0 _ rfl (fun V hV => opRG_not (fun _ => trivial) (by rfl) ⟨rfl, Keeps.refl _⟩) ?_
    (try simp only [Act.put, List.setIfInBounds_toArray, List.set_cons_succ, List.set_cons_zero])
    refine rg_val0 _ rfl (fun V hV => opRG_not (fun _ => trivial) (by rfl) ⟨rfl, Keeps.refl _⟩) ?_
    (try simp only [Act.put, List.setIfInBounds_toArray, List.set_cons_succ, List.set_cons_zero])
    refine rg_val0 _ rfl (fun V hV => opRG_not (fun _ => trivial) (by rfl) ⟨rfl, Keeps.refl _⟩) ?_
    (try simp only [Act.put, List.setIfInBounds_toArray, List.set_cons_succ, List.set_cons_zero])
    refine rg_val0 _ rfl (fun V hV => opRG_not (fun _ => trivial) (by rfl) ⟨rfl, Keeps.refl _⟩) ?_
    (try simp only [Act.put, List.setIfInBounds_toArray, List.set_cons_succ, List.set_cons_zero])
    refine rg_val0 _ rfl (fun V hV => opRG_not (fun _ => trivial) (by rfl) ⟨rfl, Keeps.refl _⟩) ?_
    (try simp only [Act.put, List.setIfInBounds_toArray, List.set_cons_succ, List.set_cons_zero])
    refine rg_val0 _ rfl (fun V hV => opRG_run (fun _ => trivial) (by rfl) ?_) ?_
    · go_simp
      exact Keeps.refl _
    (try simp only [Act.put, List.setIfInBounds_toArray, List.set_cons_succ, List.set_cons_zero])
    refine rg_val0 _ rfl (fun V hV => opRG_run (fun _ => trivial) (by rfl) ?_) ?_
    · go_simp
      exact Keeps.refl _
    (try simp only [Act.put, List.setIfInBounds_toArray, List.set_cons_succ, List.set_cons_zero])
    refine rg_val0 _ rfl (fun V hV => opRG_run (fun _ => trivial) (by rfl) ?_) ?_
    · go_simp
      exact Keeps.refl _
    refine rgWalk.nil fun us V4 hV hu hJ => ?_
    clear hu hJ us
    gi_wp2
    go_wp2
    go_returns
    have hV' : Below V.heap.size V V4 := ⟨hV.os, hV.tape, hV.output, hV.size, hV.block⟩
    exact ⟨by rw [hq3, Bool.false_and]; rfl, W3.keeps hV, O2.trans (Only.of hV')⟩

set_option maxRecDepth 100000 in
set_option maxHeartbeats 4000000 in
theorem come_c (A B : Nat) (wd bd at_ n v last run r1 : Int) (ring : List Int) (w : World) (h : Room w B wd bd ring at_ n) (hwa : Wat w A B last run) (hab : A ≠ B) (hw : 2 ≤ wd ∧ wd ≤ 16) (ha : 0 ≤ at_ ∧ at_ < wd - 1) (hn : 0 ≤ n ∧ n ≤ wd - 1) (hr : 0 ≤ run ∧ run ≤ wd) (hv : rightI v = true) (hc : run ≠ 0 ∧ v ≠ last ∧ r1 = 0) :
    Calls Try.prog 47 #[.pointer (some ⟨A, 0, none⟩), .int .i64 v] w fun e w' => e = .returned (.tuple #[.bool (decide (nextI wd r1 = wd) && movedB wd bd at_ n ring), .int .i64 0]) ∧ Wat w' A B v (nextI wd r1) ∧ Only A w w' := by
  have hu := Try.underlying127
  have hu2 := Try.underlying129
  have HV := Aside0.mk hv
  have HW := Aside0.mk hw
  have HA := Aside0.mk ha
  have HN := Aside0.mk hn
  have H0 := Aside0.mk h
  have HA0 := Aside0.mk hwa
  have HAB := Aside0.mk hab
  obtain ⟨c1, c2, rfl⟩ := hc
  have d1 := beq_eq_false_iff_ne.2 c1
  have d2 := decide_eq_false c1
  have d3 := eq_false c1
  have e1 := beq_eq_false_iff_ne.2 c2
  have e2 := decide_eq_false c2
  have e3 := eq_false c2
  have hwr2 : IntKind.i64.wrap 1 = 1 := by decide
  clear h hwa hw ha hn hr hv hab
  go_enter Try.func47, Try.ntmps47
  have a1 := HA0.out.c1
  have a2 := HA0.out.c2
  have f2 := HA0.out.fz 2
  go_wp2_with (go_at_call 86; refine (stuck_right.calls _ _ _ (by rw [right_eq, HV.out])).mono ?_; rintro e w1 ⟨rfl, ⟨q, rfl⟩⟩; have a1 : (w.drewN q).cell? ⟨A, 1, none⟩ = some (.int .i64 last) := HA0.out.c1; have a2 : (w.drewN q).cell? ⟨A, 2, none⟩ = some (.int .i64 run) := HA0.out.c2; have f2 : (w.drewN q).frozen? ⟨A, 2, none⟩ = false := HA0.out.fz 2)
  have R0 : Room (w.drewN q) B wd bd ring at_ n := ⟨H0.out.block, H0.out.len⟩
  have W0 : Wat (w.drewN q) A B last run := HA0.out
  have O0 : Only A w (w.drewN q) := Only.of (drewN_below w q)
  have W0' := W0.setRun 0
  have O0' := O0.trans (Only.set (w.drewN q) 2 (.int .i64 0))
  have R0' := R0.only (Only.set (B := A) (w.drewN q) 2 (.int .i64 0)) (Ne.symm HAB.out)
  clear R0 W0 O0 a1 a2 f2
  generalize (w.drewN q).setCell ⟨A, 2, none⟩ (.int .i64 0) = w2 at R0' W0' O0' ⊢
  have R0 := R0'
  have W0 := W0'
  have O0 := O0'
  refine (wpIn_wide (n := 0)).1 ?_
  have R1 : Room w2.drew B wd bd ring at_ n := ⟨R0.block, R0.len⟩
  have W1 : Wat w2.drew A B last 0 := W0
  have O1 : Only A w w2.drew := ⟨O0.os, O0.tape, O0.output, O0.size, O0.block⟩
  clear R0 W0 O0
  refine wpIn_region_rg 22 (by kernel_rfl) (by kernel_rfl) (fun V => Room V B wd bd ring at_ n ∧ Only A w V) [6, 18, 21] (ComeJ A B last v 0 (nextI wd 0)) (tellOf [some (.pointer (some ⟨A, 0, none⟩)), some (.pointer (some ⟨A, 0, none⟩)), some (.int .i64 v), some (.pointer (some ⟨A, 0, none⟩)), some (.pointer (some ⟨A, 0, none⟩)), some (.pointer (some ⟨A, 2, none⟩)), some (.int .i64 0), some (.int .i64 (0 + 1)), some (.pointer (some ⟨A, 0, none⟩)), some (.pointer (some ⟨A, 0, none⟩)), some (.pointer (some ⟨A, 0, none⟩)), some (.pointer (some ⟨B, 0, none⟩)), some (.pointer (some ⟨B, 0, none⟩)), some (.pointer (some ⟨B, 0, none⟩)), some (.int .i64 wd), some (.int .i64 (nextI wd 0)), some (.pointer (some ⟨A, 0, none⟩)), some (.pointer (some ⟨A, 1, none⟩)), some (undef), some (.pointer (some ⟨A, 0, none⟩)), some (.pointer (some ⟨A, 2, none⟩)), some (undef)]) (by decide) ⟨R1, O1⟩ (fun us => ⟨fun e => absurd e (by simp), W1⟩) ?_
  simp only [List.take_succ_cons, List.take_zero, List.drop_succ_cons, List.drop_zero]
  (try simp only [Act.put, List.setIfInBounds_toArray, List.set_cons_succ, List.set_cons_zero])
  refine rg_val _ rfl rfl (fun _ _ h k => ⟨h.1.keeps k, h.2.trans (Only.of k)⟩) ComeJ.keeps (fun Ls us V hV hu hb hJ => opRG_run (fun _ => trivial) (by rfl) ?_) ?_
  · obtain ⟨l_, r_, hW_⟩ := ComeJ.wat hJ
    clear hu hb hJ
    go_simp
    exact Keeps.refl _
  (try simp only [Act.put, List.setIfInBounds_toArray, List.set_cons_succ, List.set_cons_zero])
  refine rg_val _ rfl rfl (fun _ _ h k => ⟨h.1.keeps k, h.2.trans (Only.of k)⟩) ComeJ.keeps (fun Ls us V hV hu hb hJ => opRG_run (fun _ => trivial) (by rfl) ?_) ?_
  · obtain ⟨l_, r_, hW_⟩ := ComeJ.wat hJ
    clear hu hb hJ
    go_simp
    exact Keeps.refl _
  (try simp only [Act.put, List.setIfInBounds_toArray, List.set_cons_succ, List.set_cons_zero])
  refine rg_val _ rfl rfl (fun _ _ h k => ⟨h.1.keeps k, h.2.trans (Only.of k)⟩) ComeJ.keeps (fun Ls us V hV hu hb hJ => opRG_run (fun _ => trivial) (by rfl) ?_) ?_
  · obtain ⟨l_, r_, hW_⟩ := ComeJ.wat hJ
    clear hu hb hJ
    go_simp
    exact Keeps.refl _
  (try simp only [Act.put, List.setIfInBounds_toArray, List.set_cons_succ, List.set_cons_zero])
  refine rg_val _ rfl rfl (fun _ _ h k => ⟨h.1.keeps k, h.2.trans (Only.of k)⟩) ComeJ.keeps (fun Ls us V hV hu hb hJ => opRG_run (fun _ => trivial) (by rfl) ?_) ?_
  · obtain ⟨l_, r_, hW_⟩ := ComeJ.wat hJ
    clear hu hb hJ
    go_simp
    exact Keeps.refl _
  (try simp only [Act.put, List.setIfInBounds_toArray, List.set_cons_succ, List.set_cons_zero])
  refine rg_val _ rfl rfl (fun _ _ h k => ⟨h.1.keeps k, h.2.trans (Only.of k)⟩) ComeJ.keeps (fun Ls us V hV hu hb hJ => opRG_run (fun _ => trivial) (by rfl) ?_) ?_
  · obtain ⟨l_, r_, hW_⟩ := ComeJ.wat hJ
    clear hu hb hJ
    go_simp
    exact Keeps.refl _
  (try simp only [Act.put, List.setIfInBounds_toArray, List.set_cons_succ, List.set_cons_zero])
  refine rg_val _ rfl rfl (fun _ _ h k => ⟨h.1.keeps k, h.2.trans (Only.of k)⟩) ComeJ.keeps (fun Ls us V hV hu hb hJ => opRG_run (fun _ => trivial) (by rfl) ?_) ?_
  · obtain ⟨l_, r_, hW_⟩ := ComeJ.wat hJ
    clear hu hb hJ
    go_simp
    exact Keeps.refl _
  (try simp only [Act.put, List.setIfInBounds_toArray, List.set_cons_succ, List.set_cons_zero])
  refine rg_both _ rfl (fun Ls us V hV hu hL hb hJ => opRG.mono (N := fun v w' => v = .int .i64 0 ∧ w' = V) ?_ (opRG_run (fun _ => trivial) (by rfl) ?_)) ?_
  · rintro v w' ⟨rfl, rfl⟩
    exact ⟨rfl, hV, ComeJ.load (a := Ls 6) (b := Ls 18) (c := Ls 21) hJ hL⟩
  · obtain ⟨l_, hW_⟩ := ComeJ.run (a := Ls 6) (b := Ls 18) (c := Ls 21) hJ hL
    clear hu hb hJ hL
    have k2 := hW_.c2
    go_simp
  (try simp only [Act.put, List.setIfInBounds_toArray, List.set_cons_succ, List.set_cons_zero])
  refine rg_val _ rfl rfl (fun _ _ h k => ⟨h.1.keeps k, h.2.trans (Only.of k)⟩) ComeJ.keeps (fun Ls us V hV hu hb hJ => opRG_run (fun _ => trivial) (by rfl) ?_) ?_
  · obtain ⟨l_, r_, hW_⟩ := ComeJ.wat hJ
    clear hu hb hJ
    go_simp
    exact Keeps.refl _
  (try simp only [Act.put, List.setIfInBounds_toArray, List.set_cons_succ, List.set_cons_zero])
  refine rg_val _ rfl rfl (fun _ _ h k => ⟨h.1.keeps k, h.2.trans (Only.of k)⟩) ComeJ.keeps (fun Ls us V hV hu hb hJ => opRG_run (fun _ => trivial) (by rfl) ?_) ?_
  · obtain ⟨l_, r_, hW_⟩ := ComeJ.wat hJ
    clear hu hb hJ
    go_simp
    exact Keeps.refl _
  (try simp only [Act.put, List.setIfInBounds_toArray, List.set_cons_succ, List.set_cons_zero])
  refine rg_val _ rfl rfl (fun _ _ h k => ⟨h.1.keeps k, h.2.trans (Only.of k)⟩) ComeJ.keeps (fun Ls us V hV hu hb hJ => opRG_run (fun _ => trivial) (by rfl) ?_) ?_
  · obtain ⟨l_, r_, hW_⟩ := ComeJ.wat hJ
    clear hu hb hJ
    go_simp
    exact Keeps.refl _
  (try simp only [Act.put, List.setIfInBounds_toArray, List.set_cons_succ, List.set_cons_zero])
  refine rg_val _ rfl rfl (fun _ _ h k => ⟨h.1.keeps k, h.2.trans (Only.of k)⟩) ComeJ.keeps (fun Ls us V hV hu hb hJ => opRG_run (fun _ => trivial) (by rfl) ?_) ?_
  · obtain ⟨l_, r_, hW_⟩ := ComeJ.wat hJ
    clear hu hb hJ
    go_simp
    exact Keeps.refl _
  (try simp only [Act.put, List.setIfInBounds_toArray, List.set_cons_succ, List.set_cons_zero])
  refine rg_val _ rfl rfl (fun _ _ h k => ⟨h.1.keeps k, h.2.trans (Only.of k)⟩) ComeJ.keeps (fun Ls us V hV hu hb hJ => opRG_run (fun _ => trivial) (by rfl) ?_) ?_
  · obtain ⟨l_, r_, hW_⟩ := ComeJ.wat hJ
    clear hu hb hJ
    have k0 := hW_.c0
    go_simp
    exact Keeps.refl _
  (try simp only [Act.put, List.setIfInBounds_toArray, List.set_cons_succ, List.set_cons_zero])
  refine rg_val _ rfl rfl (fun _ _ h k => ⟨h.1.keeps k, h.2.trans (Only.of k)⟩) ComeJ.keeps (fun Ls us V hV hu hb hJ => opRG_run (fun _ => trivial) (by rfl) ?_) ?_
  · obtain ⟨l_, r_, hW_⟩ := ComeJ.wat hJ
    clear hu hb hJ
    go_simp
    exact Keeps.refl _
  (try simp only [Act.put, List.setIfInBounds_toArray, List.set_cons_succ, List.set_cons_zero])
  refine rg_val _ rfl rfl (fun _ _ h k => ⟨h.1.keeps k, h.2.trans (Only.of k)⟩) ComeJ.keeps (fun Ls us V hV hu hb hJ => opRG_run (fun _ => trivial) (by rfl) ?_) ?_
  · obtain ⟨l_, r_, hW_⟩ := ComeJ.wat hJ
    clear hu hb hJ
    go_simp
    exact Keeps.refl _
  (try simp only [Act.put, List.setIfInBounds_toArray, List.set_cons_succ, List.set_cons_zero])
  refine rg_val _ rfl rfl (fun _ _ h k => ⟨h.1.keeps k, h.2.trans (Only.of k)⟩) ComeJ.keeps (fun Ls us V hV hu hb hJ => opRG_run (fun _ => trivial) (by rfl) ?_) ?_
  · obtain ⟨l_, r_, hW_⟩ := ComeJ.wat hJ
    clear hu hb hJ
    have kw := hV.1.c0
    go_simp
    exact Keeps.refl _
  (try simp only [Act.put, List.setIfInBounds_toArray, List.set_cons_succ, List.set_cons_zero])
  refine rg_val _ rfl rfl (fun _ _ h k => ⟨h.1.keeps k, h.2.trans (Only.of k)⟩) ComeJ.keeps (fun Ls us V hV hu hb hJ => opRG_run (fun _ => trivial) (by rfl) ?_) ?_
  · obtain ⟨l_, r_, hW_⟩ := ComeJ.wat hJ
    clear hu hb hJ
    go_simp
    exact ⟨rfl, Keeps.refl _⟩
  (try simp only [Act.put, List.setIfInBounds_toArray, List.set_cons_succ, List.set_cons_zero])
  refine rg_val _ rfl rfl (fun _ _ h k => ⟨h.1.keeps k, h.2.trans (Only.of k)⟩) ComeJ.keeps (fun Ls us V hV hu hb hJ => opRG_run (fun _ => trivial) (by rfl) ?_) ?_
  · obtain ⟨l_, r_, hW_⟩ := ComeJ.wat hJ
    clear hu hb hJ
    go_simp
    exact Keeps.refl _
  (try simp only [Act.put, List.setIfInBounds_toArray, List.set_cons_succ, List.set_cons_zero])
  refine rg_val _ rfl rfl (fun _ _ h k => ⟨h.1.keeps k, h.2.trans (Only.of k)⟩) ComeJ.keeps (fun Ls us V hV hu hb hJ => opRG_run (fun _ => trivial) (by rfl) ?_) ?_
  · obtain ⟨l_, r_, hW_⟩ := ComeJ.wat hJ
    clear hu hb hJ
    go_simp
    exact Keeps.refl _
  (try simp only [Act.put, List.setIfInBounds_toArray, List.set_cons_succ, List.set_cons_zero])
  refine rg_both _ rfl (fun Ls us V hV hu hL hb hJ => opRG.mono (N := fun x w' => x = undef ∧ w' = V.setCell ⟨A, 1, none⟩ (.int .i64 v)) ?_ (opRG_run (fun _ => trivial) (by rfl) ?_)) ?_
  · rintro x w' ⟨rfl, rfl⟩
    exact ⟨rfl, ⟨hV.1.only (Only.set V 1 _) (Ne.symm HAB.out), hV.2.trans (Only.set V 1 _)⟩, ComeJ.put1 (a := Ls 6) (b := Ls 18) (c := Ls 21) hJ hL⟩
  · obtain ⟨l_, r_, hW_⟩ := ComeJ.wat hJ
    clear hu hb hJ hL
    have k1 := hW_.c1
    have fz1 := hW_.fz 1
    go_simp
  (try simp only [Act.put, List.setIfInBounds_toArray, List.set_cons_succ, List.set_cons_zero])
  refine rg_val _ rfl rfl (fun _ _ h k => ⟨h.1.keeps k, h.2.trans (Only.of k)⟩) ComeJ.keeps (fun Ls us V hV hu hb hJ => opRG_run (fun _ => trivial) (by rfl) ?_) ?_
  · obtain ⟨l_, r_, hW_⟩ := ComeJ.wat hJ
    clear hu hb hJ
    go_simp
    exact Keeps.refl _
  (try simp only [Act.put, List.setIfInBounds_toArray, List.set_cons_succ, List.set_cons_zero])
  refine rg_val _ rfl rfl (fun _ _ h k => ⟨h.1.keeps k, h.2.trans (Only.of k)⟩) ComeJ.keeps (fun Ls us V hV hu hb hJ => opRG_run (fun _ => trivial) (by rfl) ?_) ?_
  · obtain ⟨l_, r_, hW_⟩ := ComeJ.wat hJ
    clear hu hb hJ
    go_simp
    exact Keeps.refl _
  (try simp only [Act.put, List.setIfInBounds_toArray, List.set_cons_succ, List.set_cons_zero])
  refine rg_both _ rfl (fun Ls us V hV hu hL hb hJ => opRG.mono (N := fun x w' => x = undef ∧ w' = V.setCell ⟨A, 2, none⟩ (.int .i64 (nextI wd 0))) ?_ (opRG_run (fun _ => trivial) (by rfl) ?_)) ?_
  · rintro x w' ⟨rfl, rfl⟩
    exact ⟨rfl, ⟨hV.1.only (Only.set V 2 _) (Ne.symm HAB.out), hV.2.trans (Only.set V 2 _)⟩, ComeJ.put2 (a := Ls 6) (b := Ls 18) (c := Ls 21) hJ (hb 6 (by kernel_rfl)) (hb 18 (by kernel_rfl))⟩
  · obtain ⟨l_, r_, hW_⟩ := ComeJ.wat hJ
    clear hu hb hJ hL
    have k2 := hW_.c2
    have fz2 := hW_.fz 2
    go_simp
  refine rgWalk.nil fun us V hV hu hJ => ?_
  obtain ⟨R2, O2⟩ := hV
  have W2 : Wat V A B v (nextI wd 0) := hJ.2
  clear hu hJ us W1 R1 O1
  gi_wp2
  go_wp2
  by_cases ht : (nextI wd 0) = wd
  · have hq : ((nextI wd 0) == wd) = true := beq_iff_eq.2 ht
    have hq2 : ((nextI wd 0) = wd) = True := eq_true ht
    have hq3 : decide ((nextI wd 0) = wd) = true := decide_eq_true ht
    clear ht
    refine (wpIn_wide (n := 0)).1 ?_
    have R3 : Room V.drew B wd bd ring at_ n := ⟨R2.block, R2.len⟩
    have W3 : Wat V.drew A B v (nextI wd 0) := W2
    refine wpIn_rg0 21 [some (.pointer (some ⟨A, 0, none⟩)), some (.pointer (some ⟨A, 0, none⟩)), some (.pointer (some ⟨A, 2, none⟩)), some (.int .i64 (nextI wd 0)), some (.pointer (some ⟨A, 0, none⟩)), some (.pointer (some ⟨A, 0, none⟩)), some (.pointer (some ⟨A, 0, none⟩)), some (.pointer (some ⟨B, 0, none⟩)), some (.pointer (some ⟨B, 0, none⟩)), some (.pointer (some ⟨B, 0, none⟩)), some (.int .i64 wd), some (.bool true), some (.bool true), some (.pointer (some ⟨A, 0, none⟩)), some (.pointer (some ⟨A, 0, none⟩)), some (.pointer (some ⟨A, 0, none⟩)), some (.pointer (some ⟨B, 0, none⟩)), some (.bool (movedB wd bd at_ n ring)), some (.bool (movedB wd bd at_ n ring)), some (.bool (movedB wd bd at_ n ring)), some (.int .i64 0)] (by kernel_rfl) (by kernel_rfl) ?_
    simp only [List.take_succ_cons, List.take_zero, List.drop_succ_cons, List.drop_zero]
    (try simp only [Act.put, List.setIfInBounds_toArray, List.set_cons_succ, List.set_cons_zero])
    refine rg_val0 _ rfl (fun V hV => opRG_run (fun _ => trivial) (by rfl) ?_) ?_
    · go_simp
      exact Keeps.refl _
    (try simp only [Act.put, List.setIfInBounds_toArray, List.set_cons_succ, List.set_cons_zero])
    refine rg_val0 _ rfl (fun V hV => opRG_run (fun _ => trivial) (by rfl) ?_) ?_
    · go_simp
      exact Keeps.refl _
    (try simp only [Act.put, List.setIfInBounds_toArray, List.set_cons_succ, List.set_cons_zero])
    refine rg_val0 _ rfl (fun V hV => opRG_run (fun _ => trivial) (by rfl) ?_) ?_
    · go_simp
      exact Keeps.refl _
    (try simp only [Act.put, List.setIfInBounds_toArray, List.set_cons_succ, List.set_cons_zero])
    refine rg_val0 _ rfl (fun V hV => opRG_run (fun _ => trivial) (by rfl) ?_) ?_
    · have k2 := (W3.keeps hV).c2
      go_simp
      exact Keeps.refl _
    (try simp only [Act.put, List.setIfInBounds_toArray, List.set_cons_succ, List.set_cons_zero])
    refine rg_val0 _ rfl (fun V hV => opRG_run (fun _ => trivial) (by rfl) ?_) ?_
    · go_simp
      exact Keeps.refl _
    (try simp only [Act.put, List.setIfInBounds_toArray, List.set_cons_succ, List.set_cons_zero])
    refine rg_val0 _ rfl (fun V hV => opRG_run (fun _ => trivial) (by rfl) ?_) ?_
    · go_simp
      exact Keeps.refl _
    (try simp only [Act.put, List.setIfInBounds_toArray, List.set_cons_succ, List.set_cons_zero])
    refine rg_val0 _ rfl (fun V hV => opRG_run (fun _ => trivial) (by rfl) ?_) ?_
    · go_simp
      exact Keeps.refl _
    (try simp only [Act.put, List.setIfInBounds_toArray, List.set_cons_succ, List.set_cons_zero])
    refine rg_val0 _ rfl (fun V hV => opRG_run (fun _ => trivial) (by rfl) ?_) ?_
    · have k0 := (W3.keeps hV).c0
      go_simp
      exact Keeps.refl _
    (try simp only [Act.put, List.setIfInBounds_toArray, List.set_cons_succ, List.set_cons_zero])
    refine rg_val0 _ rfl (fun V hV => opRG_run (fun _ => trivial) (by rfl) ?_) ?_
    · go_simp
      exact Keeps.refl _
    (try simp only [Act.put, List.setIfInBounds_toArray, List.set_cons_succ, List.set_cons_zero])
    refine rg_val0 _ rfl (fun V hV => opRG_run (fun _ => trivial) (by rfl) ?_) ?_
    · go_simp
      exact Keeps.refl _
    (try simp only [Act.put, List.setIfInBounds_toArray, List.set_cons_succ, List.set_cons_zero])
    refine rg_val0 _ rfl (fun V hV => opRG_run (fun _ => trivial) (by rfl) ?_) ?_
    · have kw := (R3.keeps hV).c0
      go_simp
      exact Keeps.refl _
    (try simp only [Act.put, List.setIfInBounds_toArray, List.set_cons_succ, List.set_cons_zero])
    refine rg_val0 _ rfl (fun V hV => opRG_run (fun _ => trivial) (by rfl) ?_) ?_
    · go_simp
      exact Keeps.refl _
    (try simp only [Act.put, List.setIfInBounds_toArray, List.set_cons_succ, List.set_cons_zero])
    refine rg_val0 _ rfl (fun V hV => opRG_run (fun _ => trivial) (by rfl) ?_) ?_
    · go_simp
      exact Keeps.refl _
    (try simp only [Act.put, List.setIfInBounds_toArray, List.set_cons_succ, List.set_cons_zero])
    refine rg_val0 _ rfl (fun V hV => opRG_run (fun _ => trivial) (by rfl) ?_) ?_
    · go_simp
      exact Keeps.refl _
    (try simp only [Act.put, List.setIfInBounds_toArray, List.set_cons_succ, List.set_cons_zero])
    refine rg_val0 _ rfl (fun V hV => opRG_run (fun _ => trivial) (by rfl) ?_) ?_
    · go_simp
      exact Keeps.refl _
    (try simp only [Act.put, List.setIfInBounds_toArray, List.set_cons_succ, List.set_cons_zero])
    refine rg_val0 _ rfl (fun V hV => opRG_run (fun _ => trivial) (by rfl) ?_) ?_
    · go_simp
      exact Keeps.refl _
    (try simp only [Act.put, List.setIfInBounds_toArray, List.set_cons_succ, List.set_cons_zero])
    refine rg_val0 _ rfl (fun V hV => opRG_run (fun _ => trivial) (by rfl) ?_) ?_
    · have k0 := (W3.keeps hV).c0
      go_simp
      exact Keeps.refl _
    (try simp only [Act.put, List.setIfInBounds_toArray, List.set_cons_succ, List.set_cons_zero])
    refine rg_val0 _ rfl (fun V hV => opRG_run (fun _ => trivial) (by rfl) ?_) ?_
    · go_simp
      refine ⟨by first | rfl | (intro h; cases h), callsIn_wide.2 ((moved_ok B wd bd at_ n ring V (R3.keeps hV) HW.out HA.out HN.out).mono ?_)⟩
      rintro e w2 ⟨rfl, hk⟩
      exact ⟨_, rfl, rfl, hk⟩
    (try simp only [Act.put, List.setIfInBounds_toArray, List.set_cons_succ, List.set_cons_zero])
    refine rg_val0 _ rfl (fun V hV => opRG_run (fun _ => trivial) (by rfl) ?_) ?_
    · go_simp
      exact Keeps.refl _
    (try simp only [Act.put, List.setIfInBounds_toArray, List.set_cons_succ, List.set_cons_zero])
    refine rg_val0 _ rfl (fun V hV => opRG_run (fun _ => trivial) (by rfl) ?_) ?_
    · go_simp
      exact Keeps.refl _
    (try simp only [Act.put, List.setIfInBounds_toArray, List.set_cons_succ, List.set_cons_zero])
    refine rg_val0 _ rfl (fun V hV => opRG_run (fun _ => trivial) (by rfl) ?_) ?_
    · go_simp
      exact Keeps.refl _
    refine rgWalk.nil fun us V4 hV hu hJ => ?_
    clear hu hJ us
    gi_wp2
    go_wp2
    go_returns
    have hV' : Below V.heap.size V V4 := ⟨hV.os, hV.tape, hV.output, hV.size, hV.block⟩
    exact ⟨by rw [hq3, Bool.true_and]; rfl, W3.keeps hV, O2.trans (Only.of hV')⟩
  · have hq : ((nextI wd 0) == wd) = false := beq_eq_false_iff_ne.2 ht
    have hq2 : ((nextI wd 0) = wd) = False := eq_false ht
    have hq3 : decide ((nextI wd 0) = wd) = false := decide_eq_false ht
    clear ht
    refine (wpIn_wide (n := 0)).1 ?_
    have R3 : Room V.drew B wd bd ring at_ n := ⟨R2.block, R2.len⟩
    have W3 : Wat V.drew A B v (nextI wd 0) := W2
    refine wpIn_rg0 21 [some (.pointer (some ⟨A, 0, none⟩)), some (.pointer (some ⟨A, 0, none⟩)), some (.pointer (some ⟨A, 2, none⟩)), some (.int .i64 (nextI wd 0)), some (.pointer (some ⟨A, 0, none⟩)), some (.pointer (some ⟨A, 0, none⟩)), some (.pointer (some ⟨A, 0, none⟩)), some (.pointer (some ⟨B, 0, none⟩)), some (.pointer (some ⟨B, 0, none⟩)), some (.pointer (some ⟨B, 0, none⟩)), some (.int .i64 wd), some (.bool false), some (.bool false), some (undef), some (undef), some (undef), some (undef), some (undef), some (.bool false), some (.bool false), some (.int .i64 0)] (by kernel_rfl) (by kernel_rfl) ?_
    simp only [List.take_succ_cons, List.take_zero, List.drop_succ_cons, List.drop_zero]
    (try simp only [Act.put, List.setIfInBounds_toArray, List.set_cons_succ, List.set_cons_zero])
    refine rg_val0 _ rfl (fun V hV => opRG_run (fun _ => trivial) (by rfl) ?_) ?_
    · go_simp
      exact Keeps.refl _
    (try simp only [Act.put, List.setIfInBounds_toArray, List.set_cons_succ, List.set_cons_zero])
    refine rg_val0 _ rfl (fun V hV => opRG_run (fun _ => trivial) (by rfl) ?_) ?_
    · go_simp
      exact Keeps.refl _
    (try simp only [Act.put, List.setIfInBounds_toArray, List.set_cons_succ, List.set_cons_zero])
    refine rg_val0 _ rfl (fun V hV => opRG_run (fun _ => trivial) (by rfl) ?_) ?_
    · go_simp
      exact Keeps.refl _
    (try simp only [Act.put, List.setIfInBounds_toArray, List.set_cons_succ, List.set_cons_zero])
    refine rg_val0 _ rfl (fun V hV => opRG_run (fun _ => trivial) (by rfl) ?_) ?_
    · have k2 := (W3.keeps hV).c2
      go_simp
      exact Keeps.refl _
    (try simp only [Act.put, List.setIfInBounds_toArray, List.set_cons_succ, List.set_cons_zero])
    refine rg_val0 _ rfl (fun V hV => opRG_run (fun _ => trivial) (by rfl) ?_) ?_
    · go_simp
      exact Keeps.refl _
    (try simp only [Act.put, List.setIfInBounds_toArray, List.set_cons_succ, List.set_cons_zero])
    refine rg_val0 _ rfl (fun V hV => opRG_run (fun _ => trivial) (by rfl) ?_) ?_
    · go_simp
      exact Keeps.refl _
    (try simp only [Act.put, List.setIfInBounds_toArray, List.set_cons_succ, List.set_cons_zero])
    refine rg_val0 _ rfl (fun V hV => opRG_run (fun _ => trivial) (by rfl) ?_) ?_
    · go_simp
      exact Keeps.refl _
    (try simp only [Act.put, List.setIfInBounds_toArray, List.set_cons_succ, List.set_cons_zero])
    refine rg_val0 _ rfl (fun V hV => opRG_run (fun _ => trivial) (by rfl) ?_) ?_
    · have k0 := (W3.keeps hV).c0
      go_simp
      exact Keeps.refl _
    (try simp only [Act.put, List.setIfInBounds_toArray, List.set_cons_succ, List.set_cons_zero])
    refine rg_val0 _ rfl (fun V hV => opRG_run (fun _ => trivial) (by rfl) ?_) ?_
    · go_simp
      exact Keeps.refl _
    (try simp only [Act.put, List.setIfInBounds_toArray, List.set_cons_succ, List.set_cons_zero])
    refine rg_val0 _ rfl (fun V hV => opRG_run (fun _ => trivial) (by rfl) ?_) ?_
    · go_simp
      exact Keeps.refl _
    (try simp only [Act.put, List.setIfInBounds_toArray, List.set_cons_succ, List.set_cons_zero])
    refine rg_val0 _ rfl (fun V hV => opRG_run (fun _ => trivial) (by rfl) ?_) ?_
    · have kw := (R3.keeps hV).c0
      go_simp
      exact Keeps.refl _
    (try simp only [Act.put, List.setIfInBounds_toArray, List.set_cons_succ, List.set_cons_zero])
    refine rg_val0 _ rfl (fun V hV => opRG_run (fun _ => trivial) (by rfl) ?_) ?_
    · go_simp
      exact Keeps.refl _
    (try simp only [Act.put, List.setIfInBounds_toArray, List.set_cons_succ, List.set_cons_zero])
    refine rg_val0 _ rfl (fun V hV => opRG_run (fun _ => trivial) (by rfl) ?_) ?_
    · go_simp
      exact Keeps.refl _
    (try simp only [Act.put, List.setIfInBounds_toArray, List.set_cons_succ, List.set_cons_zero])
    refine rg_val0 _ rfl (fun V hV => opRG_not (fun _ => trivial) (by rfl) ⟨rfl, Keeps.refl _⟩) ?_
    (try simp only [Act.put, List.setIfInBounds_toArray, List.set_cons_succ, List.set_cons_zero])
    refine rg_val0 _ rfl (fun V hV => opRG_not (fun _ => trivial) (by rfl) ⟨rfl, Keeps.refl _⟩) ?_
    (try simp only [Act.put, List.setIfInBounds_toArray, List.set_cons_succ, List.set_cons_zero])
    refine rg_val0 _ rfl (fun V hV => opRG_not (fun _ => trivial) (by rfl) ⟨rfl, Keeps.refl _⟩) ?_
    (try simp only [Act.put, List.setIfInBounds_toArray, List.set_cons_succ, List.set_cons_zero])
    refine rg_val0 _ rfl (fun V hV => opRG_not (fun _ => trivial) (by rfl) ⟨rfl, Keeps.refl _⟩) ?_
    (try simp only [Act.put, List.setIfInBounds_toArray, List.set_cons_succ, List.set_cons_zero])
    refine rg_val0 _ rfl (fun V hV => opRG_not (fun _ => trivial) (by rfl) ⟨rfl, Keeps.refl _⟩) ?_
    (try simp only [Act.put, List.setIfInBounds_toArray, List.set_cons_succ, List.set_cons_zero])
    refine rg_val0 _ rfl (fun V hV => opRG_run (fun _ => trivial) (by rfl) ?_) ?_
    · go_simp
      exact Keeps.refl _
    (try simp only [Act.put, List.setIfInBounds_toArray, List.set_cons_succ, List.set_cons_zero])
    refine rg_val0 _ rfl (fun V hV => opRG_run (fun _ => trivial) (by rfl) ?_) ?_
    · go_simp
      exact Keeps.refl _
    (try simp only [Act.put, List.setIfInBounds_toArray, List.set_cons_succ, List.set_cons_zero])
    refine rg_val0 _ rfl (fun V hV => opRG_run (fun _ => trivial) (by rfl) ?_) ?_
    · go_simp
      exact Keeps.refl _
    refine rgWalk.nil fun us V4 hV hu hJ => ?_
    clear hu hJ us
    gi_wp2
    go_wp2
    go_returns
    have hV' : Below V.heap.size V V4 := ⟨hV.os, hV.tape, hV.output, hV.size, hV.block⟩
    exact ⟨by rw [hq3, Bool.false_and]; rfl, W3.keeps hV, O2.trans (Only.of hV')⟩

theorem come_ok (A B : Nat) (wd bd at_ n v last run : Int) (ring : List Int) (w : World) (h : Room w B wd bd ring at_ n) (hwa : Wat w A B last run) (hab : A ≠ B) (hw : 2 ≤ wd ∧ wd ≤ 16) (ha : 0 ≤ at_ ∧ at_ < wd - 1) (hn : 0 ≤ n ∧ n ≤ wd - 1) (hr : 0 ≤ run ∧ run ≤ wd) (hv : rightI v = true) :
    Calls Try.prog 47 #[.pointer (some ⟨A, 0, none⟩), .int .i64 v] w fun e w' => e = .returned (.tuple #[.bool (decide (nextI wd (resetI last run v) = wd) && movedB wd bd at_ n ring), .int .i64 0]) ∧ Wat w' A B v (nextI wd (resetI last run v)) ∧ Only A w w' := by
  by_cases c1 : run = 0
  · exact come_b A B wd bd at_ n v last run _ ring w h hwa hab hw ha hn hr hv ⟨c1, by simp [resetI, c1]⟩
  · by_cases c2 : v = last
    · exact come_a A B wd bd at_ n v last run _ ring w h hwa hab hw ha hn hr hv ⟨c1, c2, by simp [resetI, c1, c2]⟩
    · exact come_c A B wd bd at_ n v last run _ ring w h hwa hab hw ha hn hr hv ⟨c1, c2, by simp [resetI, c1, c2]⟩

theorem come_no (A : Nat) (v : Int) (w : World) (hv : rightI v = false) :
    Calls Try.prog 47 #[.pointer (some ⟨A, 0, none⟩), .int .i64 v] w fun e w' => e = .returned (.tuple #[.bool false, .int .i64 1]) ∧ Below w.heap.size w w' := by
  have HV := Aside0.mk hv
  clear hv
  go_enter Try.func47, Try.ntmps47
  go_wp2_with (go_at_call 86; refine (stuck_right.calls _ _ _ (by rw [right_eq, HV.out])).mono ?_; rintro e w1 ⟨rfl, ⟨q, rfl⟩⟩)
  go_returns
  exact ⟨rfl, drewN_below _ _⟩
theorem come_nil (v : Int) (w : World) : Calls Try.prog 47 #[.pointer none, .int .i64 v] w fun e w' => e = .returned (.tuple #[.bool false, .int .i64 1]) ∧ w = w' := by
  go_enter Try.func47, Try.ntmps47
  go_wp2
  go_returns
  exact ⟨rfl, rfl⟩
end Go.Proofs.Ytdhmefdnpiidbaa.Stu
