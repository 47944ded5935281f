/- The document's Room.Votes, Room.Moved. -/
/- The document's Come. -/
import Derived.Test.YtdhmefdnpiidbaaStuR
import Derived.Test.YtdhmefdnpiidbaaStuM
namespace Go.Proofs.Ytdhmefdnpiidbaa.Stu
open Go.RowKit Go.Proofs.YtdhmefdnpiidbaaW.PrintWords Go.Proofs.YtdhmefdnpiidbaaW.PrintLast
open Go.Proofs.Ytdhmefdnpiidbaa.Base Go.Proofs.Ytdhmefdnpiidbaa.RG
attribute [local go_sem] uponRG_value uponRG_skip uponRG_enter
set_option linter.unusedVariables false
set_option linter.unusedSimpArgs false

open Go.Proofs.YtdhmefdnpiidbaaW.PrintMore
set_option maxRecDepth 100000 in
set_option maxHeartbeats 1000000 in
theorem rvotes_ok (D : Nat) (wd bd : Int) (ok : Nat → Prop) (L : List Int) (w : World) (h : RefR w D wd bd ok L) (hw : 2 ≤ wd ∧ wd ≤ 16) (hL : L.length ≤ 1000) :
    Calls Try.prog 50 #[.pointer (some ⟨D, 0, none⟩)] w fun e w' => ∃ A c, e = .returned (.slice A (lastV wd L).length c) ∧ (lastV wd L).length ≤ c ∧ Kd.C (Kd.int .i64) w' A (lastV wd L).length (lastV wd L) ∧ Below w.heap.size w w' := by
  have hu := Try.underlying131
  obtain ⟨u, hb, hr⟩ := h
  obtain ⟨A, c, rfl⟩ := Kd.R_slice hr
  have HR := Aside0.mk (Kd.R_reads' hr).2
  have HK := Aside0.mk hb
  obtain ⟨m, hm⟩ : ∃ m, m = mx 0 ((L.length : Int) - (wd - 1)) := ⟨_, rfl⟩
  have hm0 : 0 ≤ m ∧ m ≤ L.length := by subst hm; unfold mx; split <;> omega
  obtain ⟨i0, hi, hz0, hz1, hz2⟩ := info_parts tinfo3
  obtain ⟨A', hcut, hA, hle⟩ := print_drop_of (P := Try.prog) (Value.int .i64) 0 29 3 .i64 Try.underlying29 hi hz1 A c L m hm0.1 hm0.2 HR.out.1
  have HA := Aside0.mk hA
  have HM := Aside0.mk hm
  have HL := Aside0.mk hle
  have hlv : lastV wd L = L.drop m.toNat := by rw [hm]; rfl
  have hwr2 : IntKind.i64.wrap (wd - 1) = wd - 1 := (i64_w _).trans (by unfold wrap64; omega)
  have hwr3 : IntKind.i64.wrap ((L.length : Int) - (wd - 1)) = (L.length : Int) - (wd - 1) := (i64_w _).trans (by unfold wrap64; omega)
  rw [hlv]
  clear hb hr hA hle hlv hm hw hL hi hz0 hz1 hz2
  go_enter Try.func50, Try.ntmps50
  go_wp2
  refine (wpIn_wide (n := 0)).1 ?_
  have K1 : (w.drew).heap[D]? = some (.cells #[.int .i64 wd, .int .i64 bd, .slice A L.length c] 131 (0, 0)) := HK.out
  refine wpIn_rg0 13 [some (.pointer (some ⟨D, 0, none⟩)), some (.pointer (some ⟨D, 0, none⟩)), some (.pointer (some ⟨D, 2, none⟩)), some (.slice A L.length c), some (.int .i64 (L.length : Int)), some (.pointer (some ⟨D, 0, none⟩)), some (.pointer (some ⟨D, 0, none⟩)), some (.pointer (some ⟨D, 0, none⟩)), some (.int .i64 wd), some (.int .i64 (wd - 1)), some (.int .i64 ((L.length : Int) - (wd - 1))), some (.int .i64 (mx 0 ((L.length : Int) - (wd - 1)))), some (.int .i64 (mx 0 ((L.length : Int) - (wd - 1))))] (by kernel_rfl) (by kernel_rfl) ?_
  simp only [List.take_succ_cons, List.take_zero, List.drop_succ_cons, List.drop_zero]
  (try simp only [Act.put, List.setIfInBounds_toArray, List.set_cons_succ, List.set_cons_zero])
  refine rg_val0 _ rfl (fun V hV => opRG_run (fun _ => trivial) (by rfl) ?_) ?_
  · go_simp
    exact Keeps.refl _
  (try simp only [Act.put, List.setIfInBounds_toArray, List.set_cons_succ, List.set_cons_zero])
  refine rg_val0 _ rfl (fun V hV => opRG_run (fun _ => trivial) (by rfl) ?_) ?_
  · go_simp
    exact Keeps.refl _
  (try simp only [Act.put, List.setIfInBounds_toArray, List.set_cons_succ, List.set_cons_zero])
  refine rg_val0 _ rfl (fun V hV => opRG_run (fun _ => trivial) (by rfl) ?_) ?_
  · go_simp
    exact Keeps.refl _
  (try simp only [Act.put, List.setIfInBounds_toArray, List.set_cons_succ, List.set_cons_zero])
  refine rg_val0 _ rfl (fun V hV => opRG_run (fun _ => trivial) (by rfl) ?_) ?_
  · have k2 : V.cell? ⟨D, 2, none⟩ = some (.slice A L.length c) := (blk_cell (blk_below K1 hV) 2).trans rfl
    go_simp
    exact Keeps.refl _
  (try simp only [Act.put, List.setIfInBounds_toArray, List.set_cons_succ, List.set_cons_zero])
  refine rg_val0 _ rfl (fun V hV => opRG_run (fun _ => trivial) (by rfl) ?_) ?_
  · go_simp
    exact Keeps.refl _
  (try simp only [Act.put, List.setIfInBounds_toArray, List.set_cons_succ, List.set_cons_zero])
  refine rg_val0 _ rfl (fun V hV => opRG_run (fun _ => trivial) (by rfl) ?_) ?_
  · go_simp
    exact Keeps.refl _
  (try simp only [Act.put, List.setIfInBounds_toArray, List.set_cons_succ, List.set_cons_zero])
  refine rg_val0 _ rfl (fun V hV => opRG_run (fun _ => trivial) (by rfl) ?_) ?_
  · go_simp
    exact Keeps.refl _
  (try simp only [Act.put, List.setIfInBounds_toArray, List.set_cons_succ, List.set_cons_zero])
  refine rg_val0 _ rfl (fun V hV => opRG_run (fun _ => trivial) (by rfl) ?_) ?_
  · go_simp
    exact Keeps.refl _
  (try simp only [Act.put, List.setIfInBounds_toArray, List.set_cons_succ, List.set_cons_zero])
  refine rg_val0 _ rfl (fun V hV => opRG_run (fun _ => trivial) (by rfl) ?_) ?_
  · have k0 : V.cell? ⟨D, 0, none⟩ = some (.int .i64 wd) := (blk_cell (blk_below K1 hV) 0).trans rfl
    go_simp
    exact Keeps.refl _
  (try simp only [Act.put, List.setIfInBounds_toArray, List.set_cons_succ, List.set_cons_zero])
  refine rg_val0 _ rfl (fun V hV => opRG_run (fun _ => trivial) (by rfl) ?_) ?_
  · go_simp
    exact Keeps.refl _
  (try simp only [Act.put, List.setIfInBounds_toArray, List.set_cons_succ, List.set_cons_zero])
  refine rg_val0 _ rfl (fun V hV => opRG_run (fun _ => trivial) (by rfl) ?_) ?_
  · go_simp
    exact Keeps.refl _
  (try simp only [Act.put, List.setIfInBounds_toArray, List.set_cons_succ, List.set_cons_zero])
  refine rg_val0 _ rfl (fun V hV => opRG_run (fun _ => trivial) (by rfl) ?_) ?_
  · go_simp
    exact ⟨by unfold mx; split <;> omega, Keeps.refl _⟩
  (try simp only [Act.put, List.setIfInBounds_toArray, List.set_cons_succ, List.set_cons_zero])
  refine rg_val0 _ rfl (fun V hV => opRG_run (fun _ => trivial) (by rfl) ?_) ?_
  · go_simp
    exact Keeps.refl _
  refine rgWalk.nil fun us V hV hu hJ => ?_
  clear hu hJ us
  have k2 : V.cell? ⟨D, 2, none⟩ = some (.slice A L.length c) := (blk_cell (blk_below K1 hV) 2).trans rfl
  rw [← HM.out]
  gi_wp2
  go_wp2
  go_returns
  have hV' : Below w.heap.size w V := ⟨hV.os, hV.tape, hV.output, hV.size, hV.block⟩
  have hc := HA.out w (Kd.reads_of_C (enc := Value.int .i64) (d := (0 : Int)) (h1 := fun _ => rfl) HR.out.2)
  have hd : Kd.C (Kd.int .i64) V A' (L.drop m.toNat).length (L.drop m.toNat) := Kd.C_below (Kd.C_of_reads (enc := Value.int .i64) (d := (0 : Int)) (h1 := fun _ => rfl) hc) hV'
  have hle := HL.out
  refine ⟨A', c - m.toNat, ?_, ?_, ?_, hV'⟩
  · simp
  · exact hle
  · exact hd

def movedR (wd bd : Int) (L : List Int) : Bool := decide (((lastV wd L).length : Int) = wd - 1) && decide (bd < spreadV (lastV wd L))
theorem rspread_calls (A : Option Addr) (c : Nat) (l : List Int) (w : World) (hl : l.length ≤ 1000) (hr : Kd.C (Kd.int .i64) w A l.length l) (hc : l.length ≤ c) :
    Calls Try.prog 30 #[.slice A l.length c] w fun e w' => e = .returned (.int .i64 (spreadV l)) ∧ Below w.heap.size w w' := by
  obtain ⟨k, hk⟩ := Ref.ev_spread l (by omega)
  exact rudderref02_Spread.calls k A c l _ w hr hc (hk k (Nat.le_refl _))

set_option maxRecDepth 100000 in
set_option maxHeartbeats 1000000 in
theorem rmoved_yes (D : Nat) (wd bd : Int) (ok : Nat → Prop) (L : List Int) (w : World) (h : RefR w D wd bd ok L) (hw : 2 ≤ wd ∧ wd ≤ 16) (hL : L.length ≤ 1000) (he : ((lastV wd L).length : Int) = wd - 1) :
    Calls Try.prog 52 #[.pointer (some ⟨D, 0, none⟩)] w fun e w' => e = .returned (.bool (decide (bd < spreadV (lastV wd L)))) ∧ Below w.heap.size w w' := by
  have hu := Try.underlying131
  have HR := Aside0.mk h
  have HW := Aside0.mk hw
  have HL := Aside0.mk hL
  have hwr2 : IntKind.i64.wrap (wd - 1) = wd - 1 := (i64_w _).trans (by unfold wrap64; omega)
  have hq : (((lastV wd L).length : Int) == wd - 1) = true := beq_iff_eq.2 he
  have hq2 : (((lastV wd L).length : Int) = wd - 1) = True := eq_true he
  have hq3 : decide (((lastV wd L).length : Int) = wd - 1) = true := decide_eq_true he
  clear h hw hL he
  go_enter Try.func52, Try.ntmps52
  go_wp2_with (go_at_call 50; refine (rvotes_ok D wd bd ok L w HR.out HW.out HL.out).mono ?_; rintro e w1 ⟨A, c, rfl, hc, hr, hb⟩; have HC := Aside0.mk hc; have HV := Aside0.mk hr; have HB := Aside0.mk hb; have K1 := Aside0.mk (HR.out.keeps hb); clear hc hr hb)
  refine (wpIn_wide (n := 0)).1 ?_
  obtain ⟨u, hk, -⟩ := K1.out
  have K2 : (w1.drew).heap[D]? = some (.cells #[.int .i64 wd, .int .i64 bd, u] 131 (0, 0)) := hk
  have V2 : Kd.C (Kd.int .i64) w1.drew A (lastV wd L).length (lastV wd L) := HV.out
  clear hk K1
  refine wpIn_rg0 18 [some (.slice A (lastV wd L).length c), some (.int .i64 ((lastV wd L).length : Int)), some (.pointer (some ⟨D, 0, none⟩)), some (.pointer (some ⟨D, 0, none⟩)), some (.pointer (some ⟨D, 0, none⟩)), some (.int .i64 wd), some (.int .i64 (wd - 1)), some (.bool true), some (.bool true), some (.slice A (lastV wd L).length c), some (.int .i64 (spreadV (lastV wd L))), some (.pointer (some ⟨D, 0, none⟩)), some (.pointer (some ⟨D, 0, none⟩)), some (.pointer (some ⟨D, 1, none⟩)), some (.int .i64 bd), some (.bool (decide (bd < spreadV (lastV wd L)))), some (.bool (decide (bd < spreadV (lastV wd L)))), some (.bool (decide (bd < spreadV (lastV wd L))))] (by kernel_rfl) (by kernel_rfl) ?_
  simp only [List.take_succ_cons, List.take_zero, List.drop_succ_cons, List.drop_zero]
  (try simp only [Act.put, List.setIfInBounds_toArray, List.set_cons_succ, List.set_cons_zero])
  refine rg_val0 _ rfl (fun V hV => opRG_run (fun _ => trivial) (by rfl) ?_) ?_
  · go_simp
    exact Keeps.refl _
  (try simp only [Act.put, List.setIfInBounds_toArray, List.set_cons_succ, List.set_cons_zero])
  refine rg_val0 _ rfl (fun V hV => opRG_run (fun _ => trivial) (by rfl) ?_) ?_
  · go_simp
    exact Keeps.refl _
  (try simp only [Act.put, List.setIfInBounds_toArray, List.set_cons_succ, List.set_cons_zero])
  refine rg_val0 _ rfl (fun V hV => opRG_run (fun _ => trivial) (by rfl) ?_) ?_
  · go_simp
    exact Keeps.refl _
  (try simp only [Act.put, List.setIfInBounds_toArray, List.set_cons_succ, List.set_cons_zero])
  refine rg_val0 _ rfl (fun V hV => opRG_run (fun _ => trivial) (by rfl) ?_) ?_
  · go_simp
    exact Keeps.refl _
  (try simp only [Act.put, List.setIfInBounds_toArray, List.set_cons_succ, List.set_cons_zero])
  refine rg_val0 _ rfl (fun V hV => opRG_run (fun _ => trivial) (by rfl) ?_) ?_
  · go_simp
    exact Keeps.refl _
  (try simp only [Act.put, List.setIfInBounds_toArray, List.set_cons_succ, List.set_cons_zero])
  refine rg_val0 _ rfl (fun V hV => opRG_run (fun _ => trivial) (by rfl) ?_) ?_
  · have k0 : V.cell? ⟨D, 0, none⟩ = some (.int .i64 wd) := (blk_cell (blk_below K2 hV) 0).trans rfl
    go_simp
    exact Keeps.refl _
  (try simp only [Act.put, List.setIfInBounds_toArray, List.set_cons_succ, List.set_cons_zero])
  refine rg_val0 _ rfl (fun V hV => opRG_run (fun _ => trivial) (by rfl) ?_) ?_
  · go_simp
    exact Keeps.refl _
  (try simp only [Act.put, List.setIfInBounds_toArray, List.set_cons_succ, List.set_cons_zero])
  refine rg_val0 _ rfl (fun V hV => opRG_run (fun _ => trivial) (by rfl) ?_) ?_
  · go_simp
    exact Keeps.refl _
  (try simp only [Act.put, List.setIfInBounds_toArray, List.set_cons_succ, List.set_cons_zero])
  refine rg_val0 _ rfl (fun V hV => opRG_run (fun _ => trivial) (by rfl) ?_) ?_
  · go_simp
    exact Keeps.refl _
  (try simp only [Act.put, List.setIfInBounds_toArray, List.set_cons_succ, List.set_cons_zero])
  refine rg_val0 _ rfl (fun V hV => opRG_run (fun _ => trivial) (by rfl) ?_) ?_
  · go_simp
    exact Keeps.refl _
  (try simp only [Act.put, List.setIfInBounds_toArray, List.set_cons_succ, List.set_cons_zero])
  refine rg_val0 _ rfl (fun V hV => opRG_run (fun _ => trivial) (by rfl) ?_) ?_
  · go_simp
    refine ⟨by first | rfl | (intro h; cases h), callsIn_wide.2 ((rspread_calls A c _ V (Nat.le_trans (lastV_le wd L) HL.out) (Kd.C_below V2 hV) HC.out).mono ?_)⟩
    rintro e w2 ⟨rfl, hd⟩
    exact ⟨_, rfl, rfl, hd⟩
  (try simp only [Act.put, List.setIfInBounds_toArray, List.set_cons_succ, List.set_cons_zero])
  refine rg_val0 _ rfl (fun V hV => opRG_run (fun _ => trivial) (by rfl) ?_) ?_
  · go_simp
    exact Keeps.refl _
  (try simp only [Act.put, List.setIfInBounds_toArray, List.set_cons_succ, List.set_cons_zero])
  refine rg_val0 _ rfl (fun V hV => opRG_run (fun _ => trivial) (by rfl) ?_) ?_
  · go_simp
    exact Keeps.refl _
  (try simp only [Act.put, List.setIfInBounds_toArray, List.set_cons_succ, List.set_cons_zero])
  refine rg_val0 _ rfl (fun V hV => opRG_run (fun _ => trivial) (by rfl) ?_) ?_
  · go_simp
    exact Keeps.refl _
  (try simp only [Act.put, List.setIfInBounds_toArray, List.set_cons_succ, List.set_cons_zero])
  refine rg_val0 _ rfl (fun V hV => opRG_run (fun _ => trivial) (by rfl) ?_) ?_
  · have k0 : V.cell? ⟨D, 1, none⟩ = some (.int .i64 bd) := (blk_cell (blk_below K2 hV) 1).trans rfl
    go_simp
    exact Keeps.refl _
  (try simp only [Act.put, List.setIfInBounds_toArray, List.set_cons_succ, List.set_cons_zero])
  refine rg_val0 _ rfl (fun V hV => opRG_run (fun _ => trivial) (by rfl) ?_) ?_
  · go_simp
    exact Keeps.refl _
  (try simp only [Act.put, List.setIfInBounds_toArray, List.set_cons_succ, List.set_cons_zero])
  refine rg_val0 _ rfl (fun V hV => opRG_run (fun _ => trivial) (by rfl) ?_) ?_
  · go_simp
    exact Keeps.refl _
  (try simp only [Act.put, List.setIfInBounds_toArray, List.set_cons_succ, List.set_cons_zero])
  refine rg_val0 _ rfl (fun V hV => opRG_run (fun _ => trivial) (by rfl) ?_) ?_
  · go_simp
    exact Keeps.refl _
  refine rgWalk.nil fun us V hV hu hJ => ?_
  clear hu hJ us
  gi_wp2
  go_wp2
  go_returns
  have hV' : Below w1.heap.size w1 V := ⟨hV.os, hV.tape, hV.output, hV.size, hV.block⟩
  exact ⟨rfl, below_step HB.out hV'⟩

set_option maxRecDepth 100000 in
set_option maxHeartbeats 1000000 in
theorem rmoved_no (D : Nat) (wd bd : Int) (ok : Nat → Prop) (L : List Int) (w : World) (h : RefR w D wd bd ok L) (hw : 2 ≤ wd ∧ wd ≤ 16) (hL : L.length ≤ 1000) (he : ¬ ((lastV wd L).length : Int) = wd - 1) :
    Calls Try.prog 52 #[.pointer (some ⟨D, 0, none⟩)] w fun e w' => e = .returned (.bool false) ∧ Below w.heap.size w w' := by
  have hu := Try.underlying131
  have HR := Aside0.mk h
  have HW := Aside0.mk hw
  have HL := Aside0.mk hL
  have hwr2 : IntKind.i64.wrap (wd - 1) = wd - 1 := (i64_w _).trans (by unfold wrap64; omega)
  have hq : (((lastV wd L).length : Int) == wd - 1) = false := beq_eq_false_iff_ne.2 he
  have hq2 : (((lastV wd L).length : Int) = wd - 1) = False := eq_false he
  have hq3 : decide (((lastV wd L).length : Int) = wd - 1) = false := decide_eq_false he
  clear h hw hL he
  go_enter Try.func52, Try.ntmps52
  go_wp2_with (go_at_call 50; refine (rvotes_ok D wd bd ok L w HR.out HW.out HL.out).mono ?_; rintro e w1 ⟨A, c, rfl, hc, hr, hb⟩; have HC := Aside0.mk hc; have HV := Aside0.mk hr; have HB := Aside0.mk hb; have K1 := Aside0.mk (HR.out.keeps hb); clear hc hr hb)
  refine (wpIn_wide (n := 0)).1 ?_
  obtain ⟨u, hk, -⟩ := K1.out
  have K2 : (w1.drew).heap[D]? = some (.cells #[.int .i64 wd, .int .i64 bd, u] 131 (0, 0)) := hk
  have V2 : Kd.C (Kd.int .i64) w1.drew A (lastV wd L).length (lastV wd L) := HV.out
  clear hk K1
  refine wpIn_rg0 18 [some (.slice A (lastV wd L).length c), some (.int .i64 ((lastV wd L).length : Int)), some (.pointer (some ⟨D, 0, none⟩)), some (.pointer (some ⟨D, 0, none⟩)), some (.pointer (some ⟨D, 0, none⟩)), some (.int .i64 wd), some (.int .i64 (wd - 1)), some (.bool false), some (.bool false), some (undef), some (undef), some (undef), some (undef), some (undef), some (undef), some (undef), some (.bool false), some (.bool false)] (by kernel_rfl) (by kernel_rfl) ?_
  simp only [List.take_succ_cons, List.take_zero, List.drop_succ_cons, List.drop_zero]
  (try simp only [Act.put, List.setIfInBounds_toArray, List.set_cons_succ, List.set_cons_zero])
  refine rg_val0 _ rfl (fun V hV => opRG_run (fun _ => trivial) (by rfl) ?_) ?_
  · go_simp
    exact Keeps.refl _
  (try simp only [Act.put, List.setIfInBounds_toArray, List.set_cons_succ, List.set_cons_zero])
  refine rg_val0 _ rfl (fun V hV => opRG_run (fun _ => trivial) (by rfl) ?_) ?_
  · go_simp
    exact Keeps.refl _
  (try simp only [Act.put, List.setIfInBounds_toArray, List.set_cons_succ, List.set_cons_zero])
  refine rg_val0 _ rfl (fun V hV => opRG_run (fun _ => trivial) (by rfl) ?_) ?_
  · go_simp
    exact Keeps.refl _
  (try simp only [Act.put, List.setIfInBounds_toArray, List.set_cons_succ, List.set_cons_zero])
  refine rg_val0 _ rfl (fun V hV => opRG_run (fun _ => trivial) (by rfl) ?_) ?_
  · go_simp
    exact Keeps.refl _
  (try simp only [Act.put, List.setIfInBounds_toArray, List.set_cons_succ, List.set_cons_zero])
  refine rg_val0 _ rfl (fun V hV => opRG_run (fun _ => trivial) (by rfl) ?_) ?_
  · go_simp
    exact Keeps.refl _
  (try simp only [Act.put, List.setIfInBounds_toArray, List.set_cons_succ, List.set_cons_zero])
  refine rg_val0 _ rfl (fun V hV => opRG_run (fun _ => trivial) (by rfl) ?_) ?_
  · have k0 : V.cell? ⟨D, 0, none⟩ = some (.int .i64 wd) := (blk_cell (blk_below K2 hV) 0).trans rfl
    go_simp
    exact Keeps.refl _
  (try simp only [Act.put, List.setIfInBounds_toArray, List.set_cons_succ, List.set_cons_zero])
  refine rg_val0 _ rfl (fun V hV => opRG_run (fun _ => trivial) (by rfl) ?_) ?_
  · go_simp
    exact Keeps.refl _
  (try simp only [Act.put, List.setIfInBounds_toArray, List.set_cons_succ, List.set_cons_zero])
  refine rg_val0 _ rfl (fun V hV => opRG_run (fun _ => trivial) (by rfl) ?_) ?_
  · go_simp
    exact Keeps.refl _
  (try simp only [Act.put, List.setIfInBounds_toArray, List.set_cons_succ, List.set_cons_zero])
  refine rg_val0 _ rfl (fun V hV => opRG_run (fun _ => trivial) (by rfl) ?_) ?_
  · go_simp
    exact Keeps.refl _
  (try simp only [Act.put, List.setIfInBounds_toArray, List.set_cons_succ, List.set_cons_zero])
  refine rg_val0 _ rfl (fun V hV => opRG_not (fun _ => trivial) (by rfl) ⟨rfl, Keeps.refl _⟩) ?_
  (try simp only [Act.put, List.setIfInBounds_toArray, List.set_cons_succ, List.set_cons_zero])
  refine rg_val0 _ rfl (fun V hV => opRG_not (fun _ => trivial) (by rfl) ⟨rfl, Keeps.refl _⟩) ?_
  (try simp only [Act.put, List.setIfInBounds_toArray, List.set_cons_succ, List.set_cons_zero])
  refine rg_val0 _ rfl (fun V hV => opRG_not (fun _ => trivial) (by rfl) ⟨rfl, Keeps.refl _⟩) ?_
  (try simp only [Act.put, List.setIfInBounds_toArray, List.set_cons_succ, List.set_cons_zero])
  refine rg_val0 _ rfl (fun V hV => opRG_not (fun _ => trivial) (by rfl) ⟨rfl, Keeps.refl _⟩) ?_
  (try simp only [Act.put, List.setIfInBounds_toArray, List.set_cons_succ, List.set_cons_zero])
  refine rg_val0 _ rfl (fun V hV => opRG_not (fun _ => trivial) (by rfl) ⟨rfl, Keeps.refl _⟩) ?_
  (try simp only [Act.put, List.setIfInBounds_toArray, List.set_cons_succ, List.set_cons_zero])
  refine rg_val0 _ rfl (fun V hV => opRG_not (fun _ => trivial) (by rfl) ⟨rfl, Keeps.refl _⟩) ?_
  (try simp only [Act.put, List.setIfInBounds_toArray, List.set_cons_succ, List.set_cons_zero])
  refine rg_val0 _ rfl (fun V hV => opRG_not (fun _ => trivial) (by rfl) ⟨rfl, Keeps.refl _⟩) ?_
  (try simp only [Act.put, List.setIfInBounds_toArray, List.set_cons_succ, List.set_cons_zero])
  refine rg_val0 _ rfl (fun V hV => opRG_run (fun _ => trivial) (by rfl) ?_) ?_
  · go_simp
    exact Keeps.refl _
  (try simp only [Act.put, List.setIfInBounds_toArray, List.set_cons_succ, List.set_cons_zero])
  refine rg_val0 _ rfl (fun V hV => opRG_run (fun _ => trivial) (by rfl) ?_) ?_
  · go_simp
    exact Keeps.refl _
  refine rgWalk.nil fun us V hV hu hJ => ?_
  clear hu hJ us
  gi_wp2
  go_wp2
  go_returns
  have hV' : Below w1.heap.size w1 V := ⟨hV.os, hV.tape, hV.output, hV.size, hV.block⟩
  exact ⟨rfl, below_step HB.out hV'⟩

theorem rmoved_ok (D : Nat) (wd bd : Int) (ok : Nat → Prop) (L : List Int) (w : World) (h : RefR w D wd bd ok L) (hw : 2 ≤ wd ∧ wd ≤ 16) (hL : L.length ≤ 1000) :
    Calls Try.prog 52 #[.pointer (some ⟨D, 0, none⟩)] w fun e w' => e = .returned (.bool (movedR wd bd L)) ∧ Below w.heap.size w w' := by
  unfold movedR
  by_cases he : ((lastV wd L).length : Int) = wd - 1
  · rw [decide_eq_true he, Bool.true_and]
    exact rmoved_yes D wd bd ok L w h hw hL he
  · rw [decide_eq_false he, Bool.false_and]
    exact rmoved_no D wd bd ok L w h hw hL he
end Go.Proofs.Ytdhmefdnpiidbaa.Stu

namespace Go.Proofs.Ytdhmefdnpiidbaa.Stu
open Go.RowKit Go.Proofs.YtdhmefdnpiidbaaW.PrintWords Go.Proofs.YtdhmefdnpiidbaaW.PrintLast Go.Proofs.YtdhmefdnpiidbaaW.PrintMore
open Go.Proofs.Ytdhmefdnpiidbaa.Base Go.Proofs.Ytdhmefdnpiidbaa.RG Go.Proofs.Ytdhmefdnpiidbaa.Ord
set_option linter.unusedVariables false
set_option linter.unusedSimpArgs false

/-- What came in a row, with one more. -/
def comeL (cs : List Int) (v : Int) : List Int := (if cs ≠ [] ∧ gx cs 0 = v then cs else []) ++ [v]
theorem comeL_length (cs : List Int) (v : Int) : (comeL cs v).length ≤ cs.length + 1 := by unfold comeL; split <;> simp
def ComeP (w : World) (b : Bool) (xs : List Int) (e : Ending) (w' : World) : Prop := ∃ u, e = .returned (.tuple #[u, .bool b, .int .i64 0]) ∧ Kd.R (Kd.int .i64) 3 w' w.heap.size (fun _ => True) u xs ∧ Below w.heap.size w w'

set_option maxRecDepth 100000 in
set_option maxHeartbeats 2000000 in
theorem rcome_a (D : Nat) (wd bd v : Int) (ok : Nat → Prop) (L cs : List Int) (A : Option Addr) (c : Nat) (w : World) (h : RefR w D wd bd ok L) (hw : 2 ≤ wd ∧ wd ≤ 16) (hL : L.length ≤ 1000) (hv : rightI v = true)
    (hr : Kd.C (Kd.int .i64) w A cs.length cs) (hc : cs.length ≤ c) (hcs : cs.length ≤ 1000) (hx : ∃ ad, A = some ad ∧ 0 < cs.length ∧ w.cell? ad = some (.int .i64 v)) (b : Bool) (hbv : b = (decide (wd ≤ (cs.length : Int) + 1) && movedR wd bd L)) :
    Calls Try.prog 48 #[.pointer (some ⟨D, 0, none⟩), .slice A cs.length c, .int .i64 v] w (ComeP w b (cs ++ [v])) := by
  have hu := Try.underlying131
  have HR := Aside0.mk h
  have HW := Aside0.mk hw
  have HL := Aside0.mk hL
  have HV := Aside0.mk hv
  have HC := Aside0.mk hr
  have HBV := Aside0.mk hbv
  clear hbv
  obtain ⟨ad, rfl, hp, hx⟩ := hx
  have HX := Aside0.mk hx
  have hp1 : (0 < (cs.length : Int)) = True := eq_true (by omega)
  have hp2 : decide (0 < (cs.length : Int)) = true := decide_eq_true (by omega)
  have hp3 : (0 < cs.length) = True := eq_true hp
  clear h hw hL hv hr hx hp
  go_enter Try.func48, Try.ntmps48
  go_wp2_with (first
    | (go_at_call 87; refine (rudderref08_Right.calls _ _ _ (by rw [right8_eq, HV.out])).mono ?_; rintro e w1 ⟨rfl, ⟨q, rfl⟩⟩; have x0 : (w.drewN q).cell? ad = some (.int .i64 v) := HX.out)
    | ((with_reducible refine gate_builtin (b := .append) (xs := #[.tmp 27, .tmp 28]) rfl ?_); at_builtin; refine Kd.R_append_row (Value.int .i64) 0 (h1 := fun _ => rfl) (w0 := w) w.heap.size rfl _ _ 29 3 (.int .i64 0) 8 rfl Try.underlying29 info3 rfl (by decide) (.slice none 0 0) [] cs (some ad) cs.length c (fun _ => True) rfl rfl ?aF ?aO ?aR ?aB ?aS ?aL ?_; (case aF => exact fun k hk => trivial); (case aO => exact Kd.R_nil _ _ _ _ _); (case aR => exact Kd.C_drewN HC.out q); (case aB => exact drewN_below w q); (case aS => simp); (case aL => simp; omega); intro v1 w2 ho hb hg hat; rw [List.nil_append] at ho; have HB1 := Aside0.mk hb; have HO1 := Aside0.mk ho; clear hb ho hat hg)
    | ((with_reducible refine gate_builtin (b := .append) (xs := #[.tmp 30, .tmp 32]) rfl ?_); at_builtin; refine Kd.R_append (Kd.int .i64) (w0 := w) w.heap.size rfl (.tmp 30) (.tmp 32) 29 3 (.int .i64 0) 8 rfl Try.underlying29 info3 rfl (by decide) (by omega) v1 cs v [.int .i64 v] (fun _ => True) (fun _ => False) rfl rfl rfl (fun _ hk => hk.elim) (fun _ _ => trivial) HO1.out HB1.out ?aS ?aL ?_; (case aS => exact Below.size HB1.out); (case aL => first | omega | simp | (simp; omega)); intro v2 w3 ho hb hg _; have HB2 := Aside0.mk hb; have HO2 := Aside0.mk ho; clear hb ho hg; obtain ⟨A2, c2', e2⟩ := Kd.R_slice HO2.out; subst e2)
    | (go_at_call 52; refine (rmoved_ok D wd bd ok L _ (HR.out.keeps HB2.out) HW.out HL.out).mono ?_; rintro e w4 ⟨rfl, hb⟩; have HB3 := Aside0.mk (below_step HB2.out hb); have HO3 := Aside0.mk (Kd.R_below HO2.out hb); have k0 : w4.cell? ⟨D, 0, none⟩ = some (.int .i64 wd) := (RefR.c0 (HR.out.keeps HB3.out)); clear hb))
  all_goals
    rename_i hlen
    go_returns
    have HO4 := HO3.out
    rw [show (cs ++ [v] : List Int).length = cs.length + 1 by simp] at HO4
    refine ⟨_, ?_, HO4, HB3.out⟩
    have hbf := HBV.out
    first
      | rw [decide_eq_true (show _ by simpa using hlen), Bool.true_and] at hbf
      | rw [decide_eq_false (show ¬ _ by first | omega | (simp at hlen ⊢; omega)), Bool.false_and] at hbf
    rw [hbf]
    rfl

set_option maxRecDepth 100000 in
set_option maxHeartbeats 2000000 in
theorem rcome_b (D : Nat) (wd bd v : Int) (ok : Nat → Prop) (L cs : List Int) (A : Option Addr) (c : Nat) (w : World) (h : RefR w D wd bd ok L) (hw : 2 ≤ wd ∧ wd ≤ 16) (hL : L.length ≤ 1000) (hv : rightI v = true)
    (hr : Kd.C (Kd.int .i64) w A cs.length cs) (hc : cs.length ≤ c) (hcs : cs.length ≤ 1000) (hx : ∃ ad y, A = some ad ∧ 0 < cs.length ∧ w.cell? ad = some (.int .i64 y) ∧ y ≠ v) (b : Bool) (hbv : b = (decide (wd ≤ (([] : List Int).length : Int) + 1) && movedR wd bd L)) :
    Calls Try.prog 48 #[.pointer (some ⟨D, 0, none⟩), .slice A cs.length c, .int .i64 v] w (ComeP w b ([] ++ [v])) := by
  have hu := Try.underlying131
  have HR := Aside0.mk h
  have HW := Aside0.mk hw
  have HL := Aside0.mk hL
  have HV := Aside0.mk hv
  have HC := Aside0.mk hr
  have HBV := Aside0.mk hbv
  clear hbv
  obtain ⟨ad, y, rfl, hp, hx, hy⟩ := hx
  have HX := Aside0.mk hx
  have hp1 : (0 < (cs.length : Int)) = True := eq_true (by omega)
  have hp2 : decide (0 < (cs.length : Int)) = true := decide_eq_true (by omega)
  have hp3 : (0 < cs.length) = True := eq_true hp
  have hy1 := beq_eq_false_iff_ne.2 hy
  have hy2 := eq_false hy
  have hy3 := decide_eq_false hy
  clear h hw hL hv hr hx hp hy
  go_enter Try.func48, Try.ntmps48
  go_wp2_with (first
    | (go_at_call 87; refine (rudderref08_Right.calls _ _ _ (by rw [right8_eq, HV.out])).mono ?_; rintro e w1 ⟨rfl, ⟨q, rfl⟩⟩; have x0 : (w.drewN q).cell? ad = some (.int .i64 y) := HX.out)
    | ((with_reducible refine gate_builtin (b := .append) (xs := #[.tmp 30, .tmp 32]) rfl ?_); at_builtin; refine Kd.R_append (Kd.int .i64) (w0 := w) w.heap.size rfl (.tmp 30) (.tmp 32) 29 3 (.int .i64 0) 8 rfl Try.underlying29 info3 rfl (by decide) (by omega) (.slice none 0 0) [] v [.int .i64 v] (fun _ => True) (fun _ => False) rfl rfl rfl (fun _ hk => hk.elim) (fun _ _ => trivial) (Kd.R_nil _ _ _ _ _) (drewN_below w q) ?aS ?aL ?_; (case aS => exact Below.size (drewN_below w q)); (case aL => first | omega | simp | (simp; omega)); intro v2 w3 ho hb hg _; have HB2 := Aside0.mk hb; have HO2 := Aside0.mk ho; clear hb ho hg; obtain ⟨A2, c2', e2⟩ := Kd.R_slice HO2.out; subst e2)
    | (go_at_call 52; refine (rmoved_ok D wd bd ok L _ (HR.out.keeps HB2.out) HW.out HL.out).mono ?_; rintro e w4 ⟨rfl, hb⟩; have HB3 := Aside0.mk (below_step HB2.out hb); have HO3 := Aside0.mk (Kd.R_below HO2.out hb); have k0 : w4.cell? ⟨D, 0, none⟩ = some (.int .i64 wd) := (RefR.c0 (HR.out.keeps HB3.out)); clear hb))
  all_goals
    rename_i hlen
    go_returns
    have HO4 := HO3.out
    rw [show ([] ++ [v] : List Int).length = 1 by simp] at HO4
    refine ⟨_, ?_, HO4, HB3.out⟩
    have hbf := HBV.out
    first
      | rw [decide_eq_true (show _ by simpa using hlen), Bool.true_and] at hbf
      | rw [decide_eq_false (show ¬ _ by first | omega | (simp at hlen ⊢; omega)), Bool.false_and] at hbf
    rw [hbf]
    rfl

set_option maxRecDepth 100000 in
set_option maxHeartbeats 2000000 in
theorem rcome_c (D : Nat) (wd bd v : Int) (ok : Nat → Prop) (L cs : List Int) (A : Option Addr) (c : Nat) (w : World) (h : RefR w D wd bd ok L) (hw : 2 ≤ wd ∧ wd ≤ 16) (hL : L.length ≤ 1000) (hv : rightI v = true)
    (hr : Kd.C (Kd.int .i64) w A cs.length cs) (hc : cs.length ≤ c) (hcs : cs.length ≤ 1000) (hx : cs = []) (b : Bool) (hbv : b = (decide (wd ≤ (([] : List Int).length : Int) + 1) && movedR wd bd L)) :
    Calls Try.prog 48 #[.pointer (some ⟨D, 0, none⟩), .slice A cs.length c, .int .i64 v] w (ComeP w b ([] ++ [v])) := by
  have hu := Try.underlying131
  have HR := Aside0.mk h
  have HW := Aside0.mk hw
  have HL := Aside0.mk hL
  have HV := Aside0.mk hv
  have HC := Aside0.mk hr
  have HBV := Aside0.mk hbv
  clear hbv
  subst hx
  clear h hw hL hv hr
  go_enter Try.func48, Try.ntmps48
  go_wp2_with (first
    | (go_at_call 87; refine (rudderref08_Right.calls _ _ _ (by rw [right8_eq, HV.out])).mono ?_; rintro e w1 ⟨rfl, ⟨q, rfl⟩⟩; skip)
    | ((with_reducible refine gate_builtin (b := .append) (xs := #[.tmp 30, .tmp 32]) rfl ?_); at_builtin; refine Kd.R_append (Kd.int .i64) (w0 := w) w.heap.size rfl (.tmp 30) (.tmp 32) 29 3 (.int .i64 0) 8 rfl Try.underlying29 info3 rfl (by decide) (by omega) (.slice none 0 0) [] v [.int .i64 v] (fun _ => True) (fun _ => False) rfl rfl rfl (fun _ hk => hk.elim) (fun _ _ => trivial) (Kd.R_nil _ _ _ _ _) (drewN_below w q) ?aS ?aL ?_; (case aS => exact Below.size (drewN_below w q)); (case aL => first | omega | simp | (simp; omega)); intro v2 w3 ho hb hg _; have HB2 := Aside0.mk hb; have HO2 := Aside0.mk ho; clear hb ho hg; obtain ⟨A2, c2', e2⟩ := Kd.R_slice HO2.out; subst e2)
    | (go_at_call 52; refine (rmoved_ok D wd bd ok L _ (HR.out.keeps HB2.out) HW.out HL.out).mono ?_; rintro e w4 ⟨rfl, hb⟩; have HB3 := Aside0.mk (below_step HB2.out hb); have HO3 := Aside0.mk (Kd.R_below HO2.out hb); have k0 : w4.cell? ⟨D, 0, none⟩ = some (.int .i64 wd) := (RefR.c0 (HR.out.keeps HB3.out)); clear hb))
  all_goals
    rename_i hlen
    go_returns
    have HO4 := HO3.out
    rw [show ([] ++ [v] : List Int).length = 1 by simp] at HO4
    refine ⟨_, ?_, HO4, HB3.out⟩
    have hbf := HBV.out
    first
      | rw [decide_eq_true (show _ by simpa using hlen), Bool.true_and] at hbf
      | rw [decide_eq_false (show ¬ _ by first | omega | (simp at hlen ⊢; omega)), Bool.false_and] at hbf
    rw [hbf]
    rfl

theorem rcome_ok (D : Nat) (wd bd v : Int) (ok : Nat → Prop) (L cs : List Int) (A : Option Addr) (c : Nat) (w : World) (h : RefR w D wd bd ok L) (hw : 2 ≤ wd ∧ wd ≤ 16) (hL : L.length ≤ 1000) (hv : rightI v = true)
    (hr : Kd.C (Kd.int .i64) w A cs.length cs) (hc : cs.length ≤ c) (hcs : cs.length ≤ 1000) :
    Calls Try.prog 48 #[.pointer (some ⟨D, 0, none⟩), .slice A cs.length c, .int .i64 v] w (ComeP w (decide (wd ≤ ((comeL cs v).length : Int)) && movedR wd bd L) (comeL cs v)) := by
  unfold comeL
  by_cases h0 : cs = []
  · rw [if_neg (by simp [h0])]
    exact rcome_c D wd bd v ok L cs A c w h hw hL hv hr hc hcs h0 _ (by simp)
  · have hp : 0 < cs.length := List.length_pos_iff.2 h0
    obtain ⟨ad, e, hx⟩ := Kd.at_int hr 0 (by omega) (by omega)
    subst e
    rw [Int.toNat_zero, Addr.add_zero'] at hx
    have hg : rd cs 0 = gx cs 0 := by simp [rd, gx]
    rw [hg] at hx
    by_cases h1 : gx cs 0 = v
    · rw [if_pos ⟨h0, h1⟩]
      rw [h1] at hx
      exact rcome_a D wd bd v ok L cs _ c w h hw hL hv hr hc hcs ⟨ad, rfl, hp, hx⟩ _ (by simp)
    · rw [if_neg (fun e => h1 e.2)]
      exact rcome_b D wd bd v ok L cs _ c w h hw hL hv hr hc hcs ⟨ad, _, rfl, hp, hx, h1⟩ _ (by simp)

theorem rcome_no (D : Nat) (v : Int) (A : Option Addr) (n c : Nat) (w : World) (hv : rightI v = false) :
    Calls Try.prog 48 #[.pointer (some ⟨D, 0, none⟩), .slice A n c, .int .i64 v] w fun e w' => e = .returned (.tuple #[.slice A n c, .bool false, .int .i64 1]) ∧ Below w.heap.size w w' := by
  have HV := Aside0.mk hv
  clear hv
  go_enter Try.func48, Try.ntmps48
  go_wp2_with (go_at_call 87; refine (rudderref08_Right.calls _ _ _ (by rw [right8_eq, HV.out])).mono ?_; rintro e w1 ⟨rfl, ⟨q, rfl⟩⟩)
  go_returns
  exact ⟨rfl, drewN_below _ _⟩
end Go.Proofs.Ytdhmefdnpiidbaa.Stu
