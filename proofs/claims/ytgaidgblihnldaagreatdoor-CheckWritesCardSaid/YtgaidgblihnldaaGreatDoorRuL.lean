/- Rules: awake; the names that they write; RuleKnows. No statement of its own. -/
import Derived.Test.YtgaidgblihnldaaGreatDoorRu
set_option linter.unusedSimpArgs false
set_option linter.unusedVariables false
set_option maxRecDepth 100000
namespace Go.Proofs.YtgaidgblihnldaaGreatDoor
open Go.RowKit
def rlA : Rl := ⟨2, 0, ⟨#[]⟩, ⟨#[]⟩, 2, ⟨#[88]⟩, ⟨#[]⟩, [(2, ⟨#[115, 116, 97, 116, 117, 115]⟩)]⟩
def rlB : Rl := ⟨1, 0, ⟨#[]⟩, ⟨#[]⟩, 2, ⟨#[88]⟩, ⟨#[]⟩, [(2, ⟨#[115, 116, 97, 116, 117, 115]⟩)]⟩
def rlC : Rl := ⟨1, 0, ⟨#[]⟩, ⟨#[]⟩, 1, ⟨#[86, 105, 97]⟩, ⟨#[]⟩, []⟩
def wrR (ac : Int) (a b : ByteArray) : List ByteArray := if ac = 4 then [foldB a, foldB b] else [foldB a]
theorem app_tight {st : St} {i : TI} {e : List AV} {es ys : List (List AV)} {tg : Tk} {K : AV → St → Prop} (hy : ys ≠ []) (hb : ((e :: es).length + ys.length) * i.bytes ≤ 140737488355328) (hm : (e :: es).length + ys.length ≤ maxLen)
    (hK : ∀ t e' tk', K (.sl (.own t e') i.size (e :: es ++ ys)) ⟨st.heap, tk'⟩) : vcApp i (.sl .tight i.size (e :: es)) (.sl tg i.size ys) st K := by
  unfold vcApp srcA
  simp only [decide_true]
  exact ⟨fun e => absurd e hy, fun _ => ⟨hb, hm, hK _ _ _⟩⟩
section
attribute [local irreducible] vcApp
end
end Go.Proofs.YtgaidgblihnldaaGreatDoor
