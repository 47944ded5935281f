/- stuck.Room: what its block holds, and what a change of one block leaves. -/
/- stuck.New, Room.Watch, Watch.Miss, Watch.Run. -/
/- stuck.Room.Vote. -/
import Derived.Test.YtdhmefdnpiidbaaRG
import Derived.Test.YtdhmefdnpiidbaaWLast
import Derived.Test.YtdhmefdnpiidbaaBasex5
import Derived.Test.YtdhmefdnpiidbaaOrd3
import Derived.Handy
import Derived.OwnWalkIn
import Derived.TacticsInMore
import Derived.Sort.QuietTacIn
namespace Go.Proofs.Ytdhmefdnpiidbaa.Stu
open Go.RowKit Go.Proofs.YtdhmefdnpiidbaaW.PrintWords Go.Proofs.YtdhmefdnpiidbaaW.PrintLast
open Go.Proofs.Ytdhmefdnpiidbaa.Base Go.Proofs.Ytdhmefdnpiidbaa.RG
set_option linter.unusedVariables false
set_option linter.unusedSimpArgs false

/-- The world but for one block. -/
structure Only (B : Nat) (w w' : World) : Prop where
  os : w'.os = w.os
  tape : w'.tape = w.tape
  output : w'.output = w.output
  size : w.heap.size ≤ w'.heap.size
  block : ∀ k, k < w.heap.size → k ≠ B → w'.heap[k]? = w.heap[k]?
theorem Only.refl (B : Nat) (w : World) : Only B w w := ⟨rfl, rfl, rfl, Nat.le_refl _, fun _ _ _ => rfl⟩
theorem Only.trans {B : Nat} {a b c : World} (h : Only B a b) (k : Only B b c) : Only B a c :=
  ⟨k.os.trans h.os, k.tape.trans h.tape, k.output.trans h.output, Nat.le_trans h.size k.size, fun i hi hn => (k.block i (Nat.lt_of_lt_of_le hi h.size) hn).trans (h.block i hi hn)⟩
theorem Only.of {B : Nat} {w w' : World} (h : Below w.heap.size w w') : Only B w w' := ⟨h.os, h.tape, h.output, h.size, fun k hk _ => h.block k hk⟩
theorem Only.set {B : Nat} (w : World) (i : Nat) (v : Value) : Only B w (w.setCell ⟨B, i, none⟩ v) :=
  have h := (Below.refl B w).setCell (p := ⟨B, i, none⟩) (Nat.le_refl _) v
  ⟨h.os, h.tape, h.output, h.size, fun k _ hn => Below.heap_setCell w ⟨B, i, none⟩ v k hn⟩
theorem Only.below {B n : Nat} {w w' : World} (h : Only B w w') (hn : n ≤ B) (hs : n ≤ w.heap.size) : Below n w w' := ⟨h.os, h.tape, h.output, h.size, fun k hk => h.block k (by omega) (by omega)⟩

def roomL (wd bd : Int) (ring : List Int) (at_ n : Int) : List Value := Value.int .i64 wd :: Value.int .i64 bd :: (ring.map (Value.int .i64) ++ [Value.int .i64 at_, Value.int .i64 n])
/-- A room's block. -/
structure Room (W : World) (B : Nat) (wd bd : Int) (ring : List Int) (at_ n : Int) : Prop where
  block : W.heap[B]? = some (.cells (roomL wd bd ring at_ n).toArray 127 (0, 0))
  len : ring.length = 16

section
variable {W W' : World} {B : Nat} {wd bd : Int} {ring : List Int} {at_ n : Int}
theorem Room.lt (h : Room W B wd bd ring at_ n) : B < W.heap.size := (Array.getElem?_eq_some_iff.1 h.block).1
theorem Room.cell (h : Room W B wd bd ring at_ n) (i : Nat) : W.cell? ⟨B, i, none⟩ = (roomL wd bd ring at_ n)[i]? := by rw [blk_cell h.block i]; simp
theorem Room.c0 (h : Room W B wd bd ring at_ n) : W.cell? ⟨B, 0, none⟩ = some (.int .i64 wd) := h.cell 0
theorem Room.c1 (h : Room W B wd bd ring at_ n) : W.cell? ⟨B, 1, none⟩ = some (.int .i64 bd) := h.cell 1
theorem Room.c18 (h : Room W B wd bd ring at_ n) : W.cell? ⟨B, 18, none⟩ = some (.int .i64 at_) := by
  rw [h.cell 18]; simp [roomL, h.len]
theorem Room.c19 (h : Room W B wd bd ring at_ n) : W.cell? ⟨B, 19, none⟩ = some (.int .i64 n) := by
  rw [h.cell 19]; simp [roomL, h.len]
theorem Room.cr (h : Room W B wd bd ring at_ n) {i : Nat} (hi : i < 16) : W.cell? ⟨B, 2 + i, none⟩ = some (.int .i64 (ring[i]?.getD 0)) := by
  have hl : i < ring.length := by rw [h.len]; exact hi
  rw [h.cell (2 + i), Nat.add_comm 2 i]
  simp [roomL, List.getElem?_append_left, hl]
theorem Room.fz (h : Room W B wd bd ring at_ n) (i : Nat) : W.frozen? ⟨B, i, none⟩ = false := blk_frozen h.block i
theorem Room.keeps (h : Room W B wd bd ring at_ n) (k : Below W.heap.size W W') : Room W' B wd bd ring at_ n := ⟨blk_below h.block k, h.len⟩
theorem Room.setRing (h : Room W B wd bd ring at_ n) {i : Nat} (hi : i < 16) (v : Int) : Room (W.setCell ⟨B, 2 + i, none⟩ (.int .i64 v)) B wd bd (ring.set i v) at_ n := by
  refine ⟨blk_put h.block (2 + i) _ ?_, by simp [h.len]⟩
  have hl : i < ring.length := by rw [h.len]; exact hi
  rw [Nat.add_comm 2 i]
  simp [roomL, List.map_set, List.set_append_left, hl]
theorem Room.setAt (h : Room W B wd bd ring at_ n) (v : Int) : Room (W.setCell ⟨B, 18, none⟩ (.int .i64 v)) B wd bd ring v n := by
  refine ⟨blk_put h.block 18 _ ?_, h.len⟩
  simp [roomL, List.set_append_right, h.len]
theorem Room.setN (h : Room W B wd bd ring at_ n) (v : Int) : Room (W.setCell ⟨B, 19, none⟩ (.int .i64 v)) B wd bd ring at_ v := by
  refine ⟨blk_put h.block 19 _ ?_, h.len⟩
  simp [roomL, List.set_append_right, h.len]
theorem Room.only {B' : Nat} (h : Room W B wd bd ring at_ n) (k : Only B' W W') (hn : B ≠ B') : Room W' B wd bd ring at_ n := ⟨(k.block B h.lt hn).trans h.block, h.len⟩
end
end Go.Proofs.Ytdhmefdnpiidbaa.Stu

namespace Go.Proofs.Ytdhmefdnpiidbaa.Stu
open Go.RowKit Go.Proofs.YtdhmefdnpiidbaaW.PrintWords Go.Proofs.YtdhmefdnpiidbaaW.PrintLast
open Go.Proofs.Ytdhmefdnpiidbaa.Base Go.Proofs.Ytdhmefdnpiidbaa.RG
set_option linter.unusedVariables false
set_option linter.unusedSimpArgs false

theorem drawn_below {w w' : World} (h : Drawn0 w w') : Below w.heap.size w w' := by
  obtain ⟨q, rfl⟩ := h
  exact pw_below_drewN (Below.refl _ _) q

theorem drewN_below (w : World) (q : Nat) : Below w.heap.size w (w.drewN q) := pw_below_drewN (Below.refl _ _) q
def rightI (n : Int) : Bool := decide (-2147483648 ≤ n) && decide (n ≤ 2147483647)
theorem right_eq (n : Int) : stuck_right.f n = some (rightI n) := by
  unfold stuck_right.f rightI
  by_cases h : n ≥ -2147483648
  · rw [if_pos h]; simp; omega
  · rw [if_neg h]; simp; omega

def newB (wd bd : Int) : Bool := decide (2 ≤ wd) && decide (wd ≤ 16) && decide (0 ≤ bd) && rightI bd

set_option maxRecDepth 100000 in
theorem new_ok (wd bd : Int) (w : World) (h1 : decide (wd < 2) = false) (h2 : decide (16 < wd) = false) (h3 : decide (bd < 0) = false) (h4 : rightI bd = true) :
    Calls Try.prog 40 #[.int .i64 wd, .int .i64 bd] w fun e w' => ∃ B, e = .returned (.tuple #[.pointer (some ⟨B, 0, none⟩), .int .i64 0]) ∧ w.heap.size ≤ B ∧ Room w' B wd bd (List.replicate 16 0) 0 0 ∧ Below w.heap.size w w' := by
  have hu := Try.underlying127
  have H4 := Aside0.mk h4
  clear h4
  go_enter Try.func40, Try.ntmps40
  go_wp2_with (go_at_call 86; refine (stuck_right.calls _ _ _ (by rw [right_eq, H4.out])).mono ?_; rintro e w1 ⟨rfl, ⟨q, rfl⟩⟩)
  go_returns
  exact ⟨w.heap.size, rfl, Nat.le_refl _, ⟨blk_new _ _, by simp⟩, (drewN_below w q).alloc (by simp) _⟩

set_option maxRecDepth 100000 in
theorem new_no (wd bd : Int) (w : World) (h : newB wd bd = false) :
    Calls Try.prog 40 #[.int .i64 wd, .int .i64 bd] w fun e w' => e = .returned (.tuple #[.pointer none, .int .i64 1]) ∧ Below w.heap.size w w' := by
  have hu := Try.underlying127
  by_cases c1 : wd < 2
  · have h1 := decide_eq_true c1
    clear h c1
    go_enter Try.func40, Try.ntmps40
    go_wp2
    go_returns
    exact ⟨rfl, Below.refl _ _⟩
  have h1 := decide_eq_false c1
  by_cases c2 : 16 < wd
  · have h2 := decide_eq_true c2
    clear h c1 c2
    go_enter Try.func40, Try.ntmps40
    go_wp2
    go_returns
    exact ⟨rfl, Below.refl _ _⟩
  have h2 := decide_eq_false c2
  by_cases c3 : bd < 0
  · have h3 := decide_eq_true c3
    clear h c1 c2 c3
    go_enter Try.func40, Try.ntmps40
    go_wp2
    go_returns
    exact ⟨rfl, Below.refl _ _⟩
  have h3 := decide_eq_false c3
  have H4 : Aside0 (rightI bd = false) := ⟨by
    unfold newB at h
    have e1 : decide (2 ≤ wd) = true := decide_eq_true (by omega)
    have e2 : decide (wd ≤ 16) = true := decide_eq_true (by omega)
    have e3 : decide (0 ≤ bd) = true := decide_eq_true (by omega)
    simpa [e1, e2, e3] using h⟩
  clear h c1 c2 c3
  go_enter Try.func40, Try.ntmps40
  go_wp2_with (go_at_call 86; refine (stuck_right.calls _ _ _ (by rw [right_eq, H4.out])).mono ?_; rintro e w1 ⟨rfl, ⟨q, rfl⟩⟩)
  go_returns
  exact ⟨rfl, drewN_below _ _⟩

/-- A watch's block. -/
def Wat (W : World) (A B : Nat) (last run : Int) : Prop := W.heap[A]? = some (.cells #[.pointer (some ⟨B, 0, none⟩), .int .i64 last, .int .i64 run] 129 (0, 0))
section
variable {W W' : World} {A B : Nat} {last run : Int}
theorem Wat.lt (h : Wat W A B last run) : A < W.heap.size := (Array.getElem?_eq_some_iff.1 h).1
theorem Wat.c0 (h : Wat W A B last run) : W.cell? ⟨A, 0, none⟩ = some (.pointer (some ⟨B, 0, none⟩)) := (blk_cell h 0).trans rfl
theorem Wat.c1 (h : Wat W A B last run) : W.cell? ⟨A, 1, none⟩ = some (.int .i64 last) := (blk_cell h 1).trans rfl
theorem Wat.c2 (h : Wat W A B last run) : W.cell? ⟨A, 2, none⟩ = some (.int .i64 run) := (blk_cell h 2).trans rfl
theorem Wat.fz (h : Wat W A B last run) (i : Nat) : W.frozen? ⟨A, i, none⟩ = false := blk_frozen h i
theorem Wat.keeps (h : Wat W A B last run) (k : Below W.heap.size W W') : Wat W' A B last run := blk_below h k
theorem Wat.only {B' : Nat} (h : Wat W A B last run) (k : Only B' W W') (hn : A ≠ B') : Wat W' A B last run := (k.block A h.lt hn).trans h
theorem Wat.setLast (h : Wat W A B last run) (v : Int) : Wat (W.setCell ⟨A, 1, none⟩ (.int .i64 v)) A B v run := blk_put h 1 _ rfl
theorem Wat.setRun (h : Wat W A B last run) (v : Int) : Wat (W.setCell ⟨A, 2, none⟩ (.int .i64 v)) A B last v := blk_put h 2 _ rfl
end

theorem watch_ok (B : Nat) (w : World) :
    Calls Try.prog 42 #[.pointer (some ⟨B, 0, none⟩)] w fun e w' => ∃ A, e = .returned (.pointer (some ⟨A, 0, none⟩)) ∧ w.heap.size ≤ A ∧ Wat w' A B 0 0 ∧ Below w.heap.size w w' := by
  have hu := Try.underlying129
  go_enter Try.func42, Try.ntmps42
  go_wp2
  go_returns
  exact ⟨w.heap.size, rfl, Nat.le_refl _, blk_new _ _, (Below.refl _ _).alloc (Nat.le_refl _) _⟩
theorem watch_nil (w : World) : Calls Try.prog 42 #[.pointer none] w fun e w' => e = .returned (.pointer none) ∧ w = w' := by
  go_enter Try.func42, Try.ntmps42
  go_wp2
  go_returns
  exact ⟨rfl, rfl⟩
theorem miss_ok (A B : Nat) (last run : Int) (w : World) (h : Wat w A B last run) :
    Calls Try.prog 46 #[.pointer (some ⟨A, 0, none⟩)] w fun e w' => e = .returned (.tuple #[]) ∧ Wat w' A B last 0 ∧ Only A w w' := by
  have hu := Try.underlying129
  have HA := Aside0.mk h
  have c2 := h.c2
  have f2 := h.fz 2
  clear h
  go_enter Try.func46, Try.ntmps46
  go_wp2
  go_end0
  exact ⟨rfl, HA.out.setRun 0, Only.set w 2 _⟩
theorem miss_nil (w : World) : Calls Try.prog 46 #[.pointer none] w fun e w' => e = .returned (.tuple #[]) ∧ w = w' := by
  go_enter Try.func46, Try.ntmps46
  go_wp2
  go_end0
  exact ⟨rfl, rfl⟩
theorem run_ok (A B : Nat) (last run : Int) (w : World) (h : Wat w A B last run) :
    Calls Try.prog 53 #[.pointer (some ⟨A, 0, none⟩)] w fun e w' => e = .returned (.int .i64 run) ∧ w = w' := by
  have hu := Try.underlying129
  have c2 := h.c2
  clear h
  go_enter Try.func53, Try.ntmps53
  go_wp2
  go_returns
  exact ⟨rfl, rfl⟩
theorem run_nil (w : World) : Calls Try.prog 53 #[.pointer none] w fun e w' => e = .returned (.int .i64 0) ∧ w = w' := by
  go_enter Try.func53, Try.ntmps53
  go_wp2
  go_returns
  exact ⟨rfl, rfl⟩
end Go.Proofs.Ytdhmefdnpiidbaa.Stu

namespace Go.Proofs.Ytdhmefdnpiidbaa.Stu
open Go.RowKit Go.Proofs.YtdhmefdnpiidbaaW.PrintWords Go.Proofs.YtdhmefdnpiidbaaW.PrintLast
open Go.Proofs.Ytdhmefdnpiidbaa.Base Go.Proofs.Ytdhmefdnpiidbaa.RG
attribute [local go_sem] uponRG_value uponRG_skip uponRG_enter
set_option linter.unusedVariables false
set_option linter.unusedSimpArgs false

/-- What a vote does to a room: the number put, the place turned, one more, as long as there is room. -/
def turnAt (wd at_ : Int) : Int := Int.tmod (at_ + 1) (wd - 1)
def moreN (wd n : Int) : Int := mn (n + 1) (wd - 1)

set_option maxRecDepth 100000 in
set_option maxHeartbeats 4000000 in
theorem vote_ok (B : Nat) (wd bd at_ n v : Int) (ring : List Int) (w : World) (h : Room w B wd bd ring at_ n) (hw : 2 ≤ wd ∧ wd ≤ 16) (ha : 0 ≤ at_ ∧ at_ < 16) (hn : 0 ≤ n ∧ n ≤ 16) (hv : rightI v = true) :
    Calls Try.prog 44 #[.pointer (some ⟨B, 0, none⟩), .int .i64 v] w fun e w' => e = .returned (.int .i64 0) ∧ Room w' B wd bd (ring.set at_.toNat v) (turnAt wd at_) (moreN wd n) ∧ Only B w w' := by
  have hu := Try.underlying127
  have hu2 := Try.underlying125
  have HR := Aside0.mk h
  have HV := Aside0.mk hv
  have hwr1 : IntKind.i64.wrap (at_ + 1) = at_ + 1 := (i64_w _).trans (by unfold wrap64; omega)
  have hwr2 : IntKind.i64.wrap (wd - 1) = wd - 1 := (i64_w _).trans (by unfold wrap64; omega)
  have hwr3 : IntKind.i64.wrap (n + 1) = n + 1 := (i64_w _).trans (by unfold wrap64; omega)
  have hb1 := eq_true ha.1
  have hb2 := eq_true ha.2
  have hz : ((wd - 1 : Int) == 0) = false := beq_eq_false_iff_ne.2 (by omega)
  have hz2 : (wd - 1 = 0) = False := eq_false (by omega)
  have hat : at_.toNat < 16 := by omega
  have HW := Aside0.mk hw
  clear h hv hw ha hn
  go_enter Try.func44, Try.ntmps44
  go_wp2_with (go_at_call 86; refine (stuck_right.calls _ _ _ (by rw [right_eq, HV.out])).mono ?_; rintro e w1 ⟨rfl, ⟨q, rfl⟩⟩)
  have R1 : Room (w.drewN q).drew B wd bd ring at_ n := ⟨HR.out.block, HR.out.len⟩
  refine (wpIn_wide (n := 0)).1 ?_
  refine wpIn_rg0 9 [some (.pointer (some ⟨B, 0, none⟩)), some (.pointer (some ⟨B, 0, none⟩)), some (.pointer (some ⟨B, 0, none⟩)), some (.pointer (some ⟨B, 18, none⟩)), some (.int .i64 at_), some (.int .i64 v), some (.pointer (some ⟨B, 0, none⟩)), some (.pointer (some ⟨B, 2, none⟩)), some (.pointer (some ⟨B, 2 + at_.toNat, none⟩))] (by kernel_rfl) (by kernel_rfl) ?_
  simp only [List.take_succ_cons, List.take_zero, List.drop_succ_cons, List.drop_zero]
  refine rg_val0 _ rfl (fun V hV => opRG_run (fun _ => trivial) (by rfl) ?_) ?_
  · go_simp
    exact Keeps.refl _
  refine rg_val0 _ rfl (fun V hV => opRG_run (fun _ => trivial) (by rfl) ?_) ?_
  · go_simp
    exact Keeps.refl _
  refine rg_val0 _ rfl (fun V hV => opRG_run (fun _ => trivial) (by rfl) ?_) ?_
  · go_simp
    exact Keeps.refl _
  refine rg_val0 _ rfl (fun V hV => opRG_run (fun _ => trivial) (by rfl) ?_) ?_
  · go_simp
    exact Keeps.refl _
  refine rg_val0 _ rfl (fun V hV => opRG_run (fun _ => trivial) (by rfl) ?_) ?_
  · have k18 : V.cell? ⟨B, 18, none⟩ = some (.int .i64 at_) := (R1.keeps hV).c18
    go_simp
    exact Keeps.refl _
  refine rg_val0 _ rfl (fun V hV => opRG_run (fun _ => trivial) (by rfl) ?_) ?_
  · go_simp
    exact Keeps.refl _
  refine rg_val0 _ rfl (fun V hV => opRG_run (fun _ => trivial) (by rfl) ?_) ?_
  · go_simp
    exact Keeps.refl _
  refine rg_val0 _ rfl (fun V hV => opRG_run (fun _ => trivial) (by rfl) ?_) ?_
  · go_simp
    exact Keeps.refl _
  refine rg_val0 _ rfl (fun V hV => opRG_run (fun _ => trivial) (by rfl) ?_) ?_
  · go_simp
    exact Keeps.refl _
  refine rgWalk.nil fun us V hV hu _ => ?_
  clear hu us
  have R2 := R1.keeps hV
  have O2 : Only B w V := Only.of ⟨hV.os, hV.tape, hV.output, hV.size, hV.block⟩
  have kr := R2.cr hat
  have fr := R2.fz (2 + at_.toNat)
  have R3 := R2.setRing hat v
  have O3 := O2.trans (Only.set V (2 + at_.toNat) (.int .i64 v))
  gi_wp2
  clear kr fr R2 O2 hV
  generalize V.setCell ⟨B, 2 + at_.toNat, none⟩ (.int .i64 v) = w3 at R3 O3 ⊢
  clear V
  go_wp2
  refine (wpIn_wide (n := 0)).1 ?_
  have R4 : Room w3.drew B wd bd (ring.set at_.toNat v) at_ n := ⟨R3.block, R3.len⟩
  refine wpIn_rg0 14 [some (.pointer (some ⟨B, 0, none⟩)), some (.pointer (some ⟨B, 0, none⟩)), some (.pointer (some ⟨B, 0, none⟩)), some (.pointer (some ⟨B, 18, none⟩)), some (.int .i64 at_), some (.int .i64 (at_ + 1)), some (.pointer (some ⟨B, 0, none⟩)), some (.pointer (some ⟨B, 0, none⟩)), some (.pointer (some ⟨B, 0, none⟩)), some (.int .i64 wd), some (.int .i64 (wd - 1)), some (.int .i64 (turnAt wd at_)), some (.pointer (some ⟨B, 0, none⟩)), some (.pointer (some ⟨B, 18, none⟩))] (by kernel_rfl) (by kernel_rfl) ?_
  simp only [List.take_succ_cons, List.take_zero, List.drop_succ_cons, List.drop_zero]
  refine rg_val0 _ rfl (fun V hV => opRG_run (fun _ => trivial) (by rfl) ?_) ?_
  · go_simp
    exact Keeps.refl _
  refine rg_val0 _ rfl (fun V hV => opRG_run (fun _ => trivial) (by rfl) ?_) ?_
  · go_simp
    exact Keeps.refl _
  refine rg_val0 _ rfl (fun V hV => opRG_run (fun _ => trivial) (by rfl) ?_) ?_
  · go_simp
    exact Keeps.refl _
  refine rg_val0 _ rfl (fun V hV => opRG_run (fun _ => trivial) (by rfl) ?_) ?_
  · go_simp
    exact Keeps.refl _
  refine rg_val0 _ rfl (fun V hV => opRG_run (fun _ => trivial) (by rfl) ?_) ?_
  · have k18 : V.cell? ⟨B, 18, none⟩ = some (.int .i64 at_) := (R4.keeps hV).c18
    go_simp
    exact Keeps.refl _
  refine rg_val0 _ rfl (fun V hV => opRG_run (fun _ => trivial) (by rfl) ?_) ?_
  · go_simp
    exact Keeps.refl _
  refine rg_val0 _ rfl (fun V hV => opRG_run (fun _ => trivial) (by rfl) ?_) ?_
  · go_simp
    exact Keeps.refl _
  refine rg_val0 _ rfl (fun V hV => opRG_run (fun _ => trivial) (by rfl) ?_) ?_
  · go_simp
    exact Keeps.refl _
  refine rg_val0 _ rfl (fun V hV => opRG_run (fun _ => trivial) (by rfl) ?_) ?_
  · go_simp
    exact Keeps.refl _
  refine rg_val0 _ rfl (fun V hV => opRG_run (fun _ => trivial) (by rfl) ?_) ?_
  · have k0 : V.cell? ⟨B, 0, none⟩ = some (.int .i64 wd) := (R4.keeps hV).c0
    go_simp
    exact Keeps.refl _
  refine rg_val0 _ rfl (fun V hV => opRG_run (fun _ => trivial) (by rfl) ?_) ?_
  · go_simp
    exact Keeps.refl _
  refine rg_val0 _ rfl (fun V hV => opRG_run (fun _ => trivial) (by rfl) ?_) ?_
  · go_simp
    exact ⟨rfl, Keeps.refl _⟩
  refine rg_val0 _ rfl (fun V hV => opRG_run (fun _ => trivial) (by rfl) ?_) ?_
  · go_simp
    exact Keeps.refl _
  refine rg_val0 _ rfl (fun V hV => opRG_run (fun _ => trivial) (by rfl) ?_) ?_
  · go_simp
    exact Keeps.refl _
  refine rgWalk.nil fun us V hV hu _ => ?_
  clear hu us
  have R5 := R4.keeps hV
  have O5 : Only B w V := O3.trans (Only.of ⟨hV.os, hV.tape, hV.output, hV.size, hV.block⟩)
  have kr := R5.c18
  have fr := R5.fz 18
  have R6 := R5.setAt (turnAt wd at_)
  have O6 := O5.trans (Only.set V 18 (.int .i64 (turnAt wd at_)))
  gi_wp2
  clear kr fr R5 O5 hV
  generalize V.setCell ⟨B, 18, none⟩ (.int .i64 (turnAt wd at_)) = w4 at R6 O6 ⊢
  clear V
  go_wp2
  refine (wpIn_wide (n := 0)).1 ?_
  have R7 : Room w4.drew B wd bd (ring.set at_.toNat v) (turnAt wd at_) n := ⟨R6.block, R6.len⟩
  refine wpIn_rg0 14 [some (.pointer (some ⟨B, 0, none⟩)), some (.pointer (some ⟨B, 0, none⟩)), some (.pointer (some ⟨B, 0, none⟩)), some (.pointer (some ⟨B, 19, none⟩)), some (.int .i64 n), some (.int .i64 (n + 1)), some (.pointer (some ⟨B, 0, none⟩)), some (.pointer (some ⟨B, 0, none⟩)), some (.pointer (some ⟨B, 0, none⟩)), some (.int .i64 wd), some (.int .i64 (wd - 1)), some (.int .i64 (moreN wd n)), some (.pointer (some ⟨B, 0, none⟩)), some (.pointer (some ⟨B, 19, none⟩))] (by kernel_rfl) (by kernel_rfl) ?_
  simp only [List.take_succ_cons, List.take_zero, List.drop_succ_cons, List.drop_zero]
  refine rg_val0 _ rfl (fun V hV => opRG_run (fun _ => trivial) (by rfl) ?_) ?_
  · go_simp
    exact Keeps.refl _
  refine rg_val0 _ rfl (fun V hV => opRG_run (fun _ => trivial) (by rfl) ?_) ?_
  · go_simp
    exact Keeps.refl _
  refine rg_val0 _ rfl (fun V hV => opRG_run (fun _ => trivial) (by rfl) ?_) ?_
  · go_simp
    exact Keeps.refl _
  refine rg_val0 _ rfl (fun V hV => opRG_run (fun _ => trivial) (by rfl) ?_) ?_
  · go_simp
    exact Keeps.refl _
  refine rg_val0 _ rfl (fun V hV => opRG_run (fun _ => trivial) (by rfl) ?_) ?_
  · have k19 : V.cell? ⟨B, 19, none⟩ = some (.int .i64 n) := (R7.keeps hV).c19
    go_simp
    exact Keeps.refl _
  refine rg_val0 _ rfl (fun V hV => opRG_run (fun _ => trivial) (by rfl) ?_) ?_
  · go_simp
    exact Keeps.refl _
  refine rg_val0 _ rfl (fun V hV => opRG_run (fun _ => trivial) (by rfl) ?_) ?_
  · go_simp
    exact Keeps.refl _
  refine rg_val0 _ rfl (fun V hV => opRG_run (fun _ => trivial) (by rfl) ?_) ?_
  · go_simp
    exact Keeps.refl _
  refine rg_val0 _ rfl (fun V hV => opRG_run (fun _ => trivial) (by rfl) ?_) ?_
  · go_simp
    exact Keeps.refl _
  refine rg_val0 _ rfl (fun V hV => opRG_run (fun _ => trivial) (by rfl) ?_) ?_
  · have k0 : V.cell? ⟨B, 0, none⟩ = some (.int .i64 wd) := (R7.keeps hV).c0
    go_simp
    exact Keeps.refl _
  refine rg_val0 _ rfl (fun V hV => opRG_run (fun _ => trivial) (by rfl) ?_) ?_
  · go_simp
    exact Keeps.refl _
  refine rg_val0 _ rfl (fun V hV => opRG_run (fun _ => trivial) (by rfl) ?_) ?_
  · go_simp
    exact ⟨rfl, Keeps.refl _⟩
  refine rg_val0 _ rfl (fun V hV => opRG_run (fun _ => trivial) (by rfl) ?_) ?_
  · go_simp
    exact Keeps.refl _
  refine rg_val0 _ rfl (fun V hV => opRG_run (fun _ => trivial) (by rfl) ?_) ?_
  · go_simp
    exact Keeps.refl _
  refine rgWalk.nil fun us V hV hu _ => ?_
  clear hu us
  have R8 := R7.keeps hV
  have O8 : Only B w V := O6.trans (Only.of ⟨hV.os, hV.tape, hV.output, hV.size, hV.block⟩)
  have kr := R8.c19
  have fr := R8.fz 19
  have R9 := R8.setN (moreN wd n)
  have O9 := O8.trans (Only.set V 19 (.int .i64 (moreN wd n)))
  gi_wp2
  go_wp2
  go_returns
  exact ⟨rfl, R9, O9⟩

set_option maxRecDepth 100000 in
theorem vote_no (B : Nat) (v : Int) (w : World) (hv : rightI v = false) :
    Calls Try.prog 44 #[.pointer (some ⟨B, 0, none⟩), .int .i64 v] w fun e w' => e = .returned (.int .i64 1) ∧ Below w.heap.size w w' := by
  have HV := Aside0.mk hv
  clear hv
  go_enter Try.func44, Try.ntmps44
  go_wp2_with (go_at_call 86; refine (stuck_right.calls _ _ _ (by rw [right_eq, HV.out])).mono ?_; rintro e w1 ⟨rfl, ⟨q, rfl⟩⟩)
  go_returns
  exact ⟨rfl, drewN_below _ _⟩
theorem vote_nil (v : Int) (w : World) : Calls Try.prog 44 #[.pointer none, .int .i64 v] w fun e w' => e = .returned (.int .i64 1) ∧ w = w' := by
  go_enter Try.func44, Try.ntmps44
  go_wp2
  go_returns
  exact ⟨rfl, rfl⟩
end Go.Proofs.Ytdhmefdnpiidbaa.Stu
