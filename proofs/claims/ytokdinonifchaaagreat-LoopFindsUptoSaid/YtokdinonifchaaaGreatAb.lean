/-
  The example runs well.
-/
import Derived.Test.YtokdinonifchaaaGreatAa
import Derived.KernelRfl
set_option maxRecDepth 100000
namespace Go.Dw
def tabA : List PK := ⟨n_r02_System, _, pOne_ok sys_ok⟩ :: (tabP ++ tabR ++ tabN)
def exL : ALoop := ⟨⟨tf vx, [⟨0, []⟩]⟩, [0], [⟨[120], ts vx⟩]⟩
def unrV : V := .tup [encC ⟨tf vx, [⟨0, []⟩, ⟨0, [0]⟩, ⟨0, [0, 0]⟩]⟩, .int .i64 0]
def findV : V := .tup [encLo exL, .bool true, .int .i64 0]
theorem unr_run : yields (callI code (primsOf tabA) (go code (primsOf tabA) 100000) true n_loop_Unroll [encRs r0, encLo exL, .int .i64 3] []) unrV = true := by kernel_rfl
theorem find_run : yields (callI code (primsOf tabA) (go code (primsOf tabA) 100000) true n_loop_Find [encRs r0, encT (tf vx), .int .i64 5] []) findV = true := by kernel_rfl
def tabB : List PK := ⟨n_loop_Unroll, _, pOne_ok (closed tabA 100000 (yields_sound unr_run))⟩ :: ⟨n_loop_Find, _, pOne_ok (closed tabA 100000 (yields_sound find_run))⟩ :: tabA
theorem alive_run : yields (callI code (primsOf tabB) (go code (primsOf tabB) 100000) true n_l14_alive [] []) (.bool true) = true := by kernel_rfl
theorem alive_ok : PF n_l14_alive [] (.bool true) := closed tabB 100000 (yields_sound alive_run)
end Go.Dw
