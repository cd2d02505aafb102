/- ElfwApart: that it answers true, for any two objects. -/
import Derived.Test.YtkcopbnaleiocaaRbF
import Derived.Test.YtkcopbnaleiocaaRvP
namespace Go.Proofs.Ytkcopbnaleiocaa.Ev
open Go
set_option linter.unusedVariables false
set_option linter.unusedSimpArgs false
theorem lk1_ok' : ExtAll Try.prog lk1 := .normP con_sam (.normP con_twn (.norm con_grt lc7_ok))
theorem wrt_pre {S Y L G : List (List D)} (h : GObj S Y L G) (hs : Small S Y L G) : (decide (S.length ≤ 1048576) && decide (Y.length ≤ 1048576) && relsOk L && decide (G.length ≤ 1048576) && lensOk 1 1048576 G && (!chkB S Y L G || wrOk S Y L G)) = true := by
  refine andT (chk_pre h hs) ?_
  cases hk : chkB S Y L G with
  | false => rfl
  | true => rw [wrOk_of hk (pos_ok h.y)]; rfl
theorem con_apa (S Y L G S' Y' L' G' : List (List D)) (h : GObj S Y L G) (h' : GObj S' Y' L' G') :
    Contract Try.prog 6 [.agg [.arr secC S, .arr symC Y, .arr relC L, .arr grpC G], .agg [.arr secC S', .arr symC Y', .arr relC L', .arr grpC G']] [] (.val (.bool true), []) := by
  refine el_con lk1_ok' Try.func6 (by kernel_rfl) (by kernel_rfl) rfl (by kernel_rfl) (by kernel_rfl) (Runs.of (fun q => apap0 q S Y L G S' Y' L' G') ?_)
  unfold apat0
  refine ask (fun _ => is_refl rfl) (fun hg => ask (fun _ => is_refl rfl) (fun hg' => ?_))
  have hs := small_of hg
  have hs' := small_of hg'
  refine askT (wrt_pre h hs) (askT (wrt_pre h' hs') (ask (fun _ => is_refl rfl) (fun e => ask (fun _ => is_refl rfl) (fun e' => askT (same_pre hs) (is_refl ?_)))))
  have e : wrE S Y L G = 0 := by simpa [bne] using e
  have e' : wrE S' Y' L' G' = 0 := by simpa [bne] using e'
  rw [apart_eq e e' h.shp h'.shp, beq_self_eq_true]
end Go.Proofs.Ytkcopbnaleiocaa.Ev
