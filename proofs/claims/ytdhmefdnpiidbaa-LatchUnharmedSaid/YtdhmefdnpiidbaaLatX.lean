/- latch.Next: its contract, whatever the rule and the state. -/
import Derived.Test.YtdhmefdnpiidbaaLatN3
namespace Go.Proofs.Ytdhmefdnpiidbaa.Lat
open Go.RowKit Go.Proofs.YtdhmefdnpiidbaaW.PrintWords Go.Proofs.YtdhmefdnpiidbaaW.PrintLast Go.Proofs.YtdhmefdnpiidbaaW.PrintMore
open Go.Proofs.Ytdhmefdnpiidbaa.Base Go.Proofs.Ytdhmefdnpiidbaa.LatM
set_option linter.unusedVariables false

def latch_Next.f (L C B : Int) (la ou : Bool) (st cl bk : Int) (t : Bool) : Option (Bool × Bool × Int × Int × Int × Int × Int) :=
  (latch_Fine.f L C B la ou st cl bk).bind fun b => if b = true then ((match la, ou with
    | true, true => latch_out_next.f true true st cl bk L C B t
    | true, false => latch_latched_next.f true false st cl bk L C B t
    | false, false => latch_in_next.f false false st cl bk L C B t
    | false, true => none).bind fun (x1, x2, x3, x4, x5, x6) => some (x1, x2, x3, x4, x5, x6, 0)) else some (false, false, 0, 0, 0, 0, 1)
theorem latch_Next.calls (a0_0 a0_1 a0_2 : Int) (a1_0 a1_1 : Bool) (a1_2 a1_3 a1_4 : Int) (a2 : Bool) (r1 r2 : Bool) (r3 r4 r5 r6 r7 : Int) (w : World) (h : latch_Next.f a0_0 a0_1 a0_2 a1_0 a1_1 a1_2 a1_3 a1_4 a2 = some (r1, r2, r3, r4, r5, r6, r7)) :
    Calls Try.prog 68 #[.agg #[.int .i64 a0_0, .int .i64 a0_1, .int .i64 a0_2], .agg #[.bool a1_0, .bool a1_1, .int .i64 a1_2, .int .i64 a1_3, .int .i64 a1_4], .bool a2] w fun e w' => e = .returned (.tuple #[.agg #[.bool r1, .bool r2, .int .i64 r3, .int .i64 r4, .int .i64 r5], .int .i64 r6, .int .i64 r7]) ∧ Below w.heap.size w w' := by
  unfold latch_Next.f at h
  obtain ⟨b, hb, h⟩ := Option.bind_eq_some_iff.mp h
  cases b
  · simp only [Bool.false_eq_true, if_false, Option.some.injEq, Prod.mk.injEq] at h
    obtain ⟨rfl, rfl, rfl, rfl, rfl, rfl, rfl⟩ := h
    exact next_bad _ _ _ _ _ _ _ _ _ _ hb
  · simp only [if_true] at h
    obtain ⟨⟨x1, x2, x3, x4, x5, x6⟩, hx, h⟩ := Option.bind_eq_some_iff.mp h
    simp only [Option.some.injEq, Prod.mk.injEq] at h
    obtain ⟨rfl, rfl, rfl, rfl, rfl, rfl, rfl⟩ := h
    cases a1_0 <;> cases a1_1
    · exact next_in _ _ _ _ _ _ _ _ _ _ _ _ _ _ hb hx
    · cases hx
    · exact next_latched _ _ _ _ _ _ _ _ _ _ _ _ _ _ hb hx
    · exact next_out _ _ _ _ _ _ _ _ _ _ _ _ _ _ hb hx
end Go.Proofs.Ytdhmefdnpiidbaa.Lat
