/- The abstract run of 'ShardsNames' answers true: told by the kernel alone, in one evaluation. -/
import Derived.Test.YtjjojdnhpnfdfaaGreatDoorRows
import Derived.KernelRfl
import Derived.Test.YtjjojdnhpnfdfaaGreatDoorAbsStart
set_option linter.all false
namespace Go.Proofs.YtjjojdnhpnfdfaaGreatDoor
open Go Go.Ab
noncomputable section
def tab32 : List Int := [0,1,28,2,29,14,24,3,30,22,20,15,25,17,4,8,31,27,13,23,21,19,16,7,26,12,18,6,11,5,10,9]
def tab64 : List Int := [0,1,56,2,57,49,28,3,61,58,42,50,38,29,17,4,62,47,59,36,45,43,51,22,53,39,33,30,24,18,12,5,63,55,48,27,60,41,37,16,46,35,44,21,52,32,23,11,54,26,40,15,34,20,31,10,25,14,19,9,13,8,7,6]
def pow10 : List Int := [1,10,100,1000,10000,100000,1000000,10000000,100000000,1000000000,10000000000,100000000000,1000000000000,10000000000000,100000000000000,1000000000000000,10000000000000000,100000000000000000,1000000000000000000,10000000000000000000]
/-- The package-level variables, in their order: MaxLen, deBruijn32tab, ErrSyntax, ErrRange, uint64pow10, deBruijn64tab. -/
def vars (e1 e2 e3 : TypeId) : List AObj := [.dead, gRow e1 (tab32.map fun x => .lit (.int .u8 x)), .dead, .dead, gRow e2 (pow10.map fun x => .lit (.int .u64 x)), gRow e3 (tab64.map fun x => .lit (.int .u8 x))]
def noOrc : Orc := fun _ _ _ => none
theorem run_fn : (fun e1 e2 e3 => isTrue (callN Tryz.prog noOrc 100000 3 [] (startW (vars e1 e2 e3)))) = fun _ _ _ => true := by kernel_rfl
theorem run_ans (e1 e2 e3 : TypeId) : isTrue (callN Tryz.prog noOrc 100000 3 [] (startW (vars e1 e2 e3))) = true := congrFun (congrFun (congrFun run_fn e1) e2) e3
theorem no_own : Plain Tryz.prog := plain_of (by kernel_rfl)
theorem orc_ok : OrcOk Tryz.prog noOrc := fun _ _ _ _ _ h => by cases h
end
end Go.Proofs.YtjjojdnhpnfdfaaGreatDoor
