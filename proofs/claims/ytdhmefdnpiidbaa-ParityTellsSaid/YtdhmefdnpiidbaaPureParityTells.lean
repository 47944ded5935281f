/- For every list and every bound: the residues, and which one is the suspect, are as the document says; of more than 40 elements the live question alone is asked. -/
import Derived.Test.YtdhmefdnpiidbaaPParityTellsx1
import Derived.Test.YtdhmefdnpiidbaaRef13
import Derived.OpenShut
namespace Go.Proofs.Ytdhmefdnpiidbaa.Pure
open Go.RowKit Go.Proofs.Ytdhmefdnpiidbaa.PParityTells Go.Proofs.YtdhmefdnpiidbaaW.PrintWords Go.Proofs.YtdhmefdnpiidbaaW.PrintLast
open Go.Proofs.Ytdhmefdnpiidbaa.Base Go.Proofs.Ytdhmefdnpiidbaa.Ord Go.Proofs.Ytdhmefdnpiidbaa.Par Go.Proofs.Ytdhmefdnpiidbaa.Ref

theorem ParityTells : rudderlaw13_ParityTells.Pure := by
  intro l b _ h8 _ hb
  have hb' : -9223372036854775808 ≤ b ∧ b ≤ 9223372036854775807 := bounds_i64 hb
  refine Ev.rounds (g := fun k => rudderlaw13_ParityTells.f k l b) ?_
  unfold rudderlaw13_ParityTells.f
  by_cases h40 : (l.length : Int) > 40
  · simp only [if_pos h40]
    exact Ev.bind ev_alive13 (Ev.now _)
  · simp only [if_neg h40]
    refine Ev.bind (g := fun _ => parity_Residues.f l) (a := resOf l) (Ev.now _) ?_
    refine Ev.bind (ev_refres l) ?_
    refine Ev.bind (ev_ints _ _ (by have := (resOf_small l).1; omega)) ?_
    refine Ev.bind ev_alive13 ?_
    simp only [if_true, decide_true]
    refine Ev.bind (ev_suspect l b) ?_
    refine Ev.bind (ev_refsus l b hb') ?_
    simp only [beq_self_eq_true]
    exact Ev.now _
end Go.Proofs.Ytdhmefdnpiidbaa.Pure
