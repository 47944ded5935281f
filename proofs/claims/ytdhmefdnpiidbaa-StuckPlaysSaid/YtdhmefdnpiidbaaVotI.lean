/- vote.ones: the iterator over values with their weights. -/
import Derived.RangeFuncNested
import Derived.RangeFuncBound
import Derived.RangeFuncCalls
import Derived.RangeFuncLeaves
import Derived.Shelf.Abstract
import Derived.Shelf.RegionOpen
import Derived.WalkKit
import Derived.OwnWalkIn
import Derived.TacticsInMore
import Derived.LoopNIn
import Derived.LoopIn
import Derived.Test.YtdhmefdnpiidbaaProg
import Derived.Test.YtdhmefdnpiidbaaWWords
import Derived.Test.YtdhmefdnpiidbaaVotS
namespace Go.Proofs.Ytdhmefdnpiidbaa.Vot
open Go.RowKit Go.Shelf Go.Proofs.YtdhmefdnpiidbaaW.PrintWords
attribute [local go_sem] Oper.semAt_some
set_option linter.unusedVariables false

def upto {α : Type} (f : Nat → α) (k : Nat) : List α := (List.range k).map f
theorem upto_succ {α : Type} (f : Nat → α) (k : Nat) : upto f (k + 1) = upto f k ++ [f k] := by simp [upto, List.range_succ]
theorem upto_length {α : Type} (f : Nat → α) (k : Nat) : (upto f k).length = k := by simp [upto]

/-- What a round keeps: all below n₀, and the two boxes. -/
def KB (n₀ Bs Bt : Nat) (A B : World) : Prop := Below n₀ A B ∧ B.heap[Bs]? = A.heap[Bs]? ∧ B.heap[Bt]? = A.heap[Bt]?
theorem KB.refl (n₀ Bs Bt : Nat) (A : World) : KB n₀ Bs Bt A A := ⟨Below.refl _ _, rfl, rfl⟩
theorem KB.trans {n₀ Bs Bt : Nat} {A B C : World} (h : KB n₀ Bs Bt A B) (k : KB n₀ Bs Bt B C) : KB n₀ Bs Bt A C := ⟨h.1.trans k.1, k.2.1.trans h.2.1, k.2.2.trans h.2.2⟩
theorem KB.drew {n₀ Bs Bt : Nat} {A B : World} (h : KB n₀ Bs Bt A B) : KB n₀ Bs Bt A B.drew := ⟨h.1.drew, h.2.1, h.2.2⟩
theorem KB.s {n₀ Bs Bt : Nat} {A B : World} (h : KB n₀ Bs Bt A B) (i : Nat) : B.cell? ⟨Bs, i, none⟩ = A.cell? ⟨Bs, i, none⟩ := World.cell?_of_block (a := ⟨Bs, i, none⟩) h.2.1
theorem KB.t {n₀ Bs Bt : Nat} {A B : World} (h : KB n₀ Bs Bt A B) (i : Nat) : B.cell? ⟨Bt, i, none⟩ = A.cell? ⟨Bt, i, none⟩ := World.cell?_of_block (a := ⟨Bt, i, none⟩) h.2.2
theorem add_lt (a : Addr) (j n₀ : Nat) (h : a.block < n₀) : (a.add j).block < n₀ := by
  unfold Addr.add
  split <;> exact h
set_option maxRecDepth 100000 in
set_option maxHeartbeats 4000000 in
theorem ones1_in (n : Nat) (l Bs Bt n₀ cap cap' len : Nat) (ad ad' : Addr) (zs ws : List Int) (hb : ad.block < n₀) (hb' : ad'.block < n₀) (hlen : len ≤ 1000) (J Jx : List (Int × Int) → World → Prop) (hJd : ∀ pre W, J pre W → J pre W.drew)
    (hY : ∀ pre x W, J pre W → pre.length < len → YieldAt Fence.wide (n - 1) Try.prog l #[.agg #[.int .i64 x.1, .int .i64 x.2]] W fun e W' =>
      (e = .returned (.bool true) ∧ J (pre ++ [x]) W' ∧ KB n₀ Bs Bt W W') ∨ (e = .returned (.bool false) ∧ Jx (pre ++ [x]) W'))
    (W : World) (hBs : W.cell? ⟨Bs, 0, none⟩ = some (.slice (some ad) len cap)) (hBt : W.cell? ⟨Bt, 0, none⟩ = some (.slice (some ad') len cap'))
    (hc : ∀ j, j < len → W.cell? (ad.add j) = some (.int .i64 (zs[j]?.getD 0))) (hd : ∀ j, j < len → W.cell? (ad'.add j) = some (.int .i64 (ws[j]?.getD 0))) (h0 : J [] W) :
    CallsIn Fence.wide n Try.prog 96 #[.func (.yield l) #[] #[], .pointer (some ⟨Bs, 0, none⟩), .pointer (some ⟨Bt, 0, none⟩)] W fun e W' => (∃ v, e = .returned v) ∧
      ((∃ ys, ys = upto (fun j => (zs[j]?.getD 0, ws[j]?.getD 0)) len ∧ J ys W') ∨ (∃ pre, (∃ k, k ≤ len ∧ pre = upto (fun j => (zs[j]?.getD 0, ws[j]?.getD 0)) k) ∧ Jx pre W')) := by
  have hc' := Aside0.mk hc
  have hd' := Aside0.mk hd
  clear hc hd
  refine callsIn_of_wp Try.func96 rfl trivial ?_ rfl
  simp only [Try.ntmps96, List.size_toArray, List.length_cons, List.length_nil, Nat.reduceAdd, Nat.reduceSub, Array.replicate_succ, Array.replicate_zero, List.push_toArray, List.append_toArray, List.nil_append, List.cons_append]
  gi_wp2
  gi_loopw [7] (fun i wr => ∃ k : Nat, k ≤ len ∧ i = .int .i64 k ∧ J (upto (fun j => (zs[j]?.getD 0, ws[j]?.getD 0)) k) wr ∧ KB n₀ Bs Bt W wr)
    (fun i _ => len - (intOf i).toNat)
  case atStart => exact ⟨0, Nat.zero_le _, rfl, h0, KB.refl _ _ _ _⟩
  case round =>
    obtain ⟨k, hk, rfl, hJs, hnx⟩ := hrel
    by_cases hlt : k < len
    · have hlt' : (k : Int) < (len : Int) := by omega
      obtain ⟨fn, tmps, assign, body, hy, hR⟩ := hY _ (zs[k]?.getD 0, ws[k]?.getD 0) wr.drew (hJd _ _ hJs) (by rw [upto_length]; exact hlt)
      dsimp only at hy
      have e1 : wr.cell? (ad.add k) = some (.int .i64 (zs[k]?.getD 0)) := (hnx.1.cell (p := ad.add k) (add_lt _ _ _ hb)).trans (hc'.out k hlt)
      have e2 : wr.cell? (ad'.add k) = some (.int .i64 (ws[k]?.getD 0)) := (hnx.1.cell (p := ad'.add k) (add_lt _ _ _ hb')).trans (hd'.out k hlt)
      have e3 := (hnx.s 0).trans hBs
      have e4 := (hnx.t 0).trans hBt
      have HR := Aside0.mk hR
      have HY := Aside0.mk hY
      have HJ := Aside0.mk hJd
      clear hR hY hJd
      gi_wp2
      refine wpIn_region_still_tail 10 (by kernel_rfl) (by kernel_rfl) ?_
      simp only [List.take_succ_cons, List.take_zero, List.drop_succ_cons, List.drop_zero]
      repeat still_step
      try refine wpStill_nil ?_
      change wpListIn _ _ _ _ _ _ _ wr.drew
      gi_wp2
      refine ⟨fun h => (by cases h), HR.out.mono ?_⟩
      rintro e W3 (⟨rfl, hJ3, hk3⟩ | ⟨rfl, hJx3⟩)
      · gi_wp2
        go_roundw
        case rel => exact ⟨k + 1, by omega, by simp, by rw [upto_succ]; exact hJ3, hnx.trans ((KB.refl n₀ Bs Bt wr).drew.trans hk3)⟩
        case measure => simp [intOf]; omega
      · gi_wp2
        refine bodyPost_ret (results_none rfl _ _ _) rfl ?_
        exact ⟨⟨_, rfl⟩, .inr ⟨_, ⟨k + 1, by omega, (upto_succ _ _).symm⟩, hJx3⟩⟩
    · obtain rfl : k = len := by omega
      gi_wp2
      go_end0
      exact ⟨⟨_, rfl⟩, .inl ⟨_, rfl, hJs⟩⟩

theorem upto_pairs (zs ws : List Int) (h : zs.length = ws.length) : upto (fun j => (zs[j]?.getD 0, ws[j]?.getD 0)) zs.length = zs.zip ws := by
  apply List.ext_getElem
  · simp [upto, h]
  · intro i h1 h2
    have a : i < zs.length := by simp [upto] at h1; omega
    simp [upto, a, show i < ws.length by omega]
theorem upto_prefix (zs ws : List Int) (h : zs.length = ws.length) {k : Nat} (hk : k ≤ zs.length) : upto (fun j => (zs[j]?.getD 0, ws[j]?.getD 0)) k = (zs.zip ws).take k := by
  apply List.ext_getElem
  · simp [upto, ← h]; omega
  · intro i h1 h2
    have a : i < zs.length := by simp [upto] at h1; omega
    simp [upto, a, show i < ws.length by omega]

/-- vote.ones(values, weights): the closure captures the two boxes. -/
theorem ones_in (a a' : Option Addr) (len cap len' cap' : Nat) (w : World) :
    Calls Try.prog 70 #[.slice a len cap, .slice a' len' cap'] w fun e w' => e = .returned (.func (.func 96) #[] #[.pointer (some ⟨w.heap.size, 0, none⟩), .pointer (some ⟨w.heap.size + 1, 0, none⟩)]) ∧ w' = (w.alloc (.cells #[.slice a len cap] 29)).alloc (.cells #[.slice a' len' cap'] 29) := by
  go_enter Try.func70, Try.ntmps70
  go_wp2
  go_ret
  exact ⟨rfl, rfl⟩

theorem ones_stops (n : Nat) (Bs Bt n₀ cap cap' : Nat) (ad ad' : Addr) (zs ws : List Int) (hl : zs.length = ws.length) (hz : zs.length ≤ 1000) (w : World) (hs : Bs < w.heap.size) (ht : Bt < w.heap.size) (hn₀ : n₀ ≤ w.heap.size) (hb : ad.block < n₀) (hb' : ad'.block < n₀)
    (hBs : w.cell? ⟨Bs, 0, none⟩ = some (.slice (some ad) zs.length cap)) (hBt : w.cell? ⟨Bt, 0, none⟩ = some (.slice (some ad') zs.length cap'))
    (hc : ∀ j, j < zs.length → w.cell? (ad.add j) = some (.int .i64 (zs[j]?.getD 0))) (hd : ∀ j, j < zs.length → w.cell? (ad'.add j) = some (.int .i64 (ws[j]?.getD 0))) :
    SeqStopsK Fence.wide n Try.prog 96 #[.pointer (some ⟨Bs, 0, none⟩), .pointer (some ⟨Bt, 0, none⟩)] (fun x : Int × Int => #[Value.agg #[.int .i64 x.1, .int .i64 x.2]]) (KB n₀ Bs Bt) (fun ys => ys = zs.zip ws) (fun pre => pre <+: zs.zip ws) zs.length w := fun l J Jx W hW hJ _ hY h0 => by
  have hJd : ∀ pre W1, J pre W1 → J pre W1.drew := fun pre W1 h => hJ pre W1 W1.drew none h ⟨rfl, rfl, rfl, Nat.le_refl _, fun _ _ _ => rfl⟩ (fun r e => by cases e)
  refine (ones1_in n l Bs Bt n₀ cap cap' zs.length ad ad' zs ws hb hb' hz J Jx hJd hY W ((hW.cell (p := ⟨Bs, 0, none⟩) hs).trans hBs) ((hW.cell (p := ⟨Bt, 0, none⟩) ht).trans hBt) (fun j hj => (hW.cell (p := ad.add j) (Nat.lt_of_lt_of_le (add_lt _ _ _ hb) hn₀)).trans (hc j hj)) (fun j hj => (hW.cell (p := ad'.add j) (Nat.lt_of_lt_of_le (add_lt _ _ _ hb') hn₀)).trans (hd j hj)) h0).mono ?_
  rintro e W' ⟨he, ⟨ys, rfl, hj⟩ | ⟨pre, ⟨k, hk, rfl⟩, hj⟩⟩
  · exact ⟨he, .inl ⟨_, upto_pairs zs ws hl, hj⟩⟩
  · exact ⟨he, .inr ⟨_, by rw [upto_prefix zs ws hl hk]; exact List.take_prefix _ _, hj⟩⟩
end Go.Proofs.Ytdhmefdnpiidbaa.Vot
