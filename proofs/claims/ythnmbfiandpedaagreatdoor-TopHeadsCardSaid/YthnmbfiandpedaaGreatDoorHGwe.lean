/- A gateway run over a script of two requests: what comes of it. No statement of its own. -/
import Derived.Test.YthnmbfiandpedaaGreatDoorHFw
import Derived.Test.YthnmbfiandpedaaGreatDoorHSa
set_option linter.unusedSimpArgs false
set_option linter.unusedVariables false
set_option maxRecDepth 100000
namespace Go.Proofs.YthnmbfiandpedaaGreatDoor
open Go.RowKit
/-- a run of a function over data -/
noncomputable def runE (ft : FuncId → Option FH) (n M f : Nat) (args : List AV) : Option AV := match ft f with
  | some (.code e) => evBody Tryz.prog T (evS Tryz.prog T ft 1000 M n).cl (evS Tryz.prog T ft 1000 M n).cn (evS Tryz.prog T ft 1000 M n).cx 1000 e args ⟨[], 0, []⟩ (fun r _ => some r.deepR)
  | _ => none
theorem runE_ok {ft : FuncId → Option FH} (hft : FtOk Tryz.prog ft) {n M f : Nat} {args : List AV} {r : AV} (hr : r.datR = true) (h : runE ft n M f args = some r) : APure Tryz.prog f args r [] := by
  unfold runE at h
  split at h
  · rename_i e he
    exact run_pure T_ok mixed hft he hr h
  · cases h
noncomputable def ftW : FuncId → Option FH := findF ftFw
theorem ftW_ok : FtOk Tryz.prog ftW := findF_ok ftFw_ok
/-- the script -/
def scrA : AV := .agg [.s ⟨#[49, 46, 50, 46, 51, 46, 52]⟩, .s ⟨#[]⟩, .s ⟨#[]⟩, .s ⟨#[103, 119]⟩, .nilS, .nilS, .i 4000, .i 8, .i 4, .nilS, .s ⟨#[71, 69, 84, 32, 47, 97, 32, 72, 84, 84, 80, 47, 49, 46, 49, 13, 10, 72, 111, 115, 116, 58, 32, 104, 13, 10, 13, 10, 71, 69, 84, 32, 47, 97, 32, 72, 84, 84, 80, 47, 49, 46, 49, 13, 10, 72, 111, 115, 116, 58, 32, 104, 13, 10, 13, 10]⟩, .s ⟨#[72, 84, 84, 80, 47, 49, 46, 49, 32, 50, 48, 52, 32, 78, 13, 10, 13, 10, 72, 84, 84, 80, 47, 49, 46, 49, 32, 50, 48, 52, 32, 78, 13, 10, 13, 10]⟩, .b false, .b false, .nilS]
/-- what comes of it -/
def resA : AV := .agg [.s ⟨#[72, 84, 84, 80, 47, 49, 46, 49, 32, 50, 48, 52, 32, 78, 13, 10, 86, 105, 97, 58, 32, 49, 46, 49, 32, 103, 119, 13, 10, 13, 10, 72, 84, 84, 80, 47, 49, 46, 49, 32, 50, 48, 52, 32, 78, 13, 10, 86, 105, 97, 58, 32, 49, 46, 49, 32, 103, 119, 13, 10, 13, 10]⟩, .s ⟨#[71, 69, 84, 32, 47, 97, 32, 72, 84, 84, 80, 47, 49, 46, 49, 13, 10, 72, 111, 115, 116, 58, 32, 104, 13, 10, 86, 105, 97, 58, 32, 49, 46, 49, 32, 103, 119, 13, 10, 70, 111, 114, 119, 97, 114, 100, 101, 100, 58, 32, 102, 111, 114, 61, 49, 46, 50, 46, 51, 46, 52, 13, 10, 88, 45, 70, 111, 114, 119, 97, 114, 100, 101, 100, 45, 70, 111, 114, 58, 32, 49, 46, 50, 46, 51, 46, 52, 13, 10, 13, 10, 71, 69, 84, 32, 47, 97, 32, 72, 84, 84, 80, 47, 49, 46, 49, 13, 10, 72, 111, 115, 116, 58, 32, 104, 13, 10, 86, 105, 97, 58, 32, 49, 46, 49, 32, 103, 119, 13, 10, 70, 111, 114, 119, 97, 114, 100, 101, 100, 58, 32, 102, 111, 114, 61, 49, 46, 50, 46, 51, 46, 52, 13, 10, 88, 45, 70, 111, 114, 119, 97, 114, 100, 101, 100, 45, 70, 111, 114, 58, 32, 49, 46, 50, 46, 51, 46, 52, 13, 10, 13, 10]⟩, .i 56, .i 36, .i 0, .i 0, .b false]
theorem run_p : APure Tryz.prog 11 [scrA] (.tup [resA, .i 0]) [] := runE_ok ftW_ok (n := 40) (M := 40) (by rfl) (by kernel_rfl)
/-- a table with one row put in its place -/
noncomputable def updF (ft : FuncId → Option FH) (g : Nat) (x : FH) : FuncId → Option FH := fun f => match Nat.beq f g with | true => some x | false => ft f
theorem updF_ok {ft : FuncId → Option FH} {g : Nat} {x : FH} (h : FtOk Tryz.prog ft) (hx : FhOk Tryz.prog g x) : FtOk Tryz.prog (updF ft g x) := by
  intro f y hy
  unfold updF at hy
  split at hy
  · rename_i e
    cases hy
    rw [Nat.eq_of_beq_eq_true e]
    exact hx
  · exact h f y hy
/-- the requests that went on -/
def reqsA : AV := .sl .no 11 [[.i 1, .s ⟨#[71, 69, 84]⟩, .s ⟨#[47, 97]⟩, .i 0, .s ⟨#[]⟩, .i 1, .sl .no 2 [[.s ⟨#[72, 111, 115, 116]⟩, .s ⟨#[104]⟩], [.s ⟨#[86, 105, 97]⟩, .s ⟨#[49, 46, 49, 32, 103, 119]⟩], [.s ⟨#[70, 111, 114, 119, 97, 114, 100, 101, 100]⟩, .s ⟨#[102, 111, 114, 61, 49, 46, 50, 46, 51, 46, 52]⟩], [.s ⟨#[88, 45, 70, 111, 114, 119, 97, 114, 100, 101, 100, 45, 70, 111, 114]⟩, .s ⟨#[49, 46, 50, 46, 51, 46, 52]⟩]], .i 1, .i 0, .s ⟨#[]⟩, .nilS], [.i 1, .s ⟨#[71, 69, 84]⟩, .s ⟨#[47, 97]⟩, .i 0, .s ⟨#[]⟩, .i 1, .sl .no 2 [[.s ⟨#[72, 111, 115, 116]⟩, .s ⟨#[104]⟩], [.s ⟨#[86, 105, 97]⟩, .s ⟨#[49, 46, 49, 32, 103, 119]⟩], [.s ⟨#[70, 111, 114, 119, 97, 114, 100, 101, 100]⟩, .s ⟨#[102, 111, 114, 61, 49, 46, 50, 46, 51, 46, 52]⟩], [.s ⟨#[88, 45, 70, 111, 114, 119, 97, 114, 100, 101, 100, 45, 70, 111, 114]⟩, .s ⟨#[49, 46, 50, 46, 51, 46, 52]⟩]], .i 1, .i 0, .s ⟨#[]⟩, .nilS]]
theorem reqs_p : APure Tryz.prog 29 [resA] reqsA [] := runE_ok ftW_ok (n := 40) (M := 40) (by rfl) (by kernel_rfl)
end Go.Proofs.YthnmbfiandpedaaGreatDoor
/- The first look of the laws through the layers is true. No statement of its own. -/
set_option linter.unusedSimpArgs false
set_option linter.unusedVariables false
set_option maxRecDepth 100000
namespace Go.Proofs.YthnmbfiandpedaaGreatDoor
open Go.RowKit
noncomputable def ftR : FuncId → Option FH := updF (updF ftW 11 (.hook (known [([scrA], .tup [resA, .i 0])]))) 29 (.hook (known [([resA], reqsA)]))
theorem ftR_ok : FtOk Tryz.prog ftR := updF_ok (updF_ok ftW_ok (known_ok (.cons run_p .nil))) (known_ok (.cons reqs_p .nil))
theorem works_p : APure Tryz.prog 4 [] (.b true) [] := runE_ok ftR_ok (n := 40) (M := 40) (by rfl) (by kernel_rfl)
end Go.Proofs.YthnmbfiandpedaaGreatDoor
