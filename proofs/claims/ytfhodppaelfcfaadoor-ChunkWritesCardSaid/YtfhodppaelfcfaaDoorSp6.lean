/- CommasSplits: Tokens, by the program and by the document. No statement of its own. -/
import Derived.Test.YtfhodppaelfcfaaDoorSp5
set_option maxRecDepth 100000
namespace Go.Proofs.YtfhodppaelfcfaaDoor
open Go.RowKit
/-- the tokens of lists -/
def tokW : List ByteArray → Option (List ByteArray)
  | [] => some []
  | x :: r => match splitW x with
    | none => none
    | some p => if p.all tokB = true then (tokW r).map (p ++ ·) else none
def tokR (l : List ByteArray) : AV := match tokW l with
  | some o => .tup [.sl .no 1 (strL o), .i 0]
  | none => .tup [.nilS, .i 2]
theorem tokW_at {l : List ByteArray} {k : Nat} (h : k < l.length) : tokW (l.drop k) = match splitW l[k] with
    | none => none
    | some p => if p.all tokB = true then (tokW (l.drop (k + 1))).map (p ++ ·) else none := by
  rw [List.drop_eq_getElem_cons h]; rfl
theorem Acc.appL {n : Nat} {st : St} {i : TI} {a : AV} {es ys : List (List AV)} {tg : Tk} {K : AV → St → Prop} (h : Acc n st.tk i.size a es) (hn : n ≤ st.tk.length) (hb : (es.length + ys.length) * i.bytes ≤ 140737488355328) (hm : es.length + ys.length ≤ maxLen)
    (hK : ∀ a' tk', Acc n tk' i.size a' (es ++ ys) → K a' ⟨st.heap, tk'⟩) : vcApp i a (.sl tg i.size ys) st K := by
  unfold vcApp srcA
  simp only [decide_true]
  cases h with
  | nil =>
    refine ⟨fun e => ?_, fun _ => ⟨by simpa using hb, by simpa using hm, .inl ?_⟩⟩
    · subst e; exact hK _ st.tk .nil
    · exact hK _ _ (.own _ _ _ hn (by simp))
  | own t e es h1 h2 =>
    simp only [decide_true]
    have hlt := (List.getElem?_eq_some_iff.1 h2).1
    exact ⟨h2, hb, hm, hK _ _ (.own _ _ _ h1 (by rw [List.getElem?_set_self hlt]))⟩
section
attribute [local irreducible] vcApp
end
end Go.Proofs.YtfhodppaelfcfaaDoor
