/- The evaluator of this proof, part 20. -/
import Derived.Test.YtdnhlbbbcallpaaEng19
set_option linter.unnecessarySimpa false
set_option linter.unusedVariables false
set_option linter.unusedSimpArgs false
set_option linter.unusedSectionVars false
set_option linter.deprecated false
/- Rules that act ahead of what stands below them. -/
set_option autoImplicit false
namespace Go.Ex
theorem forkV_tt (A B : Option St) : forkV (some (.v (.b true))) true A B = A := rfl
theorem forkV_ft (A B : Option St) : forkV (some (.v (.b false))) true A B = B := rfl
theorem forkV_tf (A B : Option St) : forkV (some (.v (.b true))) false A B = B := rfl
theorem forkV_ff (A B : Option St) : forkV (some (.v (.b false))) false A B = A := rfl
variable {E : EP}
theorem opsV_congr {cfg : Cfg} {kp : List Nat} {fork : Bool} {all l : List Oper} {st st' : St} (h : st = st') : opsV E cfg kp fork all l st = opsV E cfg kp fork all l st' := by rw [h]
attribute [congr] opsV_congr
attribute [go_sem ↓] forkV_tt forkV_ft forkV_tf forkV_ff forkV_u obind_some obind_none obind2_some obind2_none bsel_t bsel_f oelse_some oelse_none oget_some oget_none optQ_some optQ_none condQ_t condQ_f
attribute [go_sem ↓] opsG_none EX_seq EX_cond EX_block EX_skip EX_ret EX_exit EX_scope EX_region2 seqQ_norm seqQ_ret seqQ_exit blockQ_norm blockQ_ret blockQ_exit roundQ_norm roundQ_exit roundQ_ret
end Go.Ex
