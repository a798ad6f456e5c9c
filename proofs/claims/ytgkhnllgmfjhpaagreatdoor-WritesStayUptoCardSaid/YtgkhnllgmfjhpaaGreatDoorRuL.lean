/- Rules: awake; the names that they write; RuleKnows. No statement of its own. -/
import Derived.Test.YtgkhnllgmfjhpaaGreatDoorRu
set_option linter.unusedSimpArgs false
set_option linter.unusedVariables false
set_option maxRecDepth 100000
namespace Go.Proofs.YtgkhnllgmfjhpaaGreatDoor
open Go.RowKit
def rlA : Rl := ⟨2, 0, ⟨#[]⟩, ⟨#[]⟩, 2, ⟨#[88]⟩, ⟨#[]⟩, [(2, ⟨#[115, 116, 97, 116, 117, 115]⟩)]⟩
def rlB : Rl := ⟨1, 0, ⟨#[]⟩, ⟨#[]⟩, 2, ⟨#[88]⟩, ⟨#[]⟩, [(2, ⟨#[115, 116, 97, 116, 117, 115]⟩)]⟩
def rlC : Rl := ⟨1, 0, ⟨#[]⟩, ⟨#[]⟩, 1, ⟨#[86, 105, 97]⟩, ⟨#[]⟩, []⟩
def wrR (ac : Int) (a b : ByteArray) : List ByteArray := if ac = 4 then [foldB a, foldB b] else [foldB a]
theorem app_tight {st : St} {i : TI} {e : List AV} {es ys : List (List AV)} {tg : Tk} {K : AV → St → Prop} (hy : ys ≠ []) (hb : ((e :: es).length + ys.length) * i.bytes ≤ 140737488355328) (hm : (e :: es).length + ys.length ≤ maxLen)
    (hK : ∀ t e' tk', K (.sl (.own t e') i.size (e :: es ++ ys)) ⟨st.heap, tk'⟩) : vcApp i (.sl .tight i.size (e :: es)) (.sl tg i.size ys) st K := by
  unfold vcApp srcA
  simp only [decide_true]
  exact ⟨fun e => absurd e hy, fun _ => ⟨hb, hm, hK _ _ _⟩⟩
section
attribute [local irreducible] vcApp
theorem writes_p (r : Rl) (hr : r.Ok) : APure Tryz.prog 16 [r.av] (.sl .no 1 (strL (wrR r.ac r.nm r.un))) [] := by
  have hmx : maxLen = 9223372036854775807 := rfl
  have h1 := foldO_p r.nm (by have := hr.nm; omega)
  have h2 := foldO_p r.un (by have := hr.un; omega)
  clear hr
  obtain ⟨sd, gk, ga, gb, ac, nm, un, ps⟩ := r
  show APure _ _ [.agg [.i sd, .i gk, .s ga, .s gb, .i ac, .s nm, .s un, .sl .no 2 (prtL ps)]] (.sl .no 1 (strL (wrR ac nm un))) _
  refine APure.ofX rfl ?_
  refine ACalls.of_vc T_ok mixed Tryz.func16 rfl Tryz.call16 ?_
  refine ⟨_, rfl, ?_⟩
  refine .p rfl h1 ?_
  refine ⟨_, rfl, ?_⟩
  refine cnd_split (fun h4 => ?_) (fun h4 => ?_)
  · have h4 : ac = 4 := beq_iff_eq.1 h4
    refine ⟨_, rfl, ?_⟩
    refine .p rfl h2 ?_
    refine app_tight (i := ti9) (List.cons_ne_nil _ _) (by show (1 + 1) * 16 ≤ _; omega) (by show 1 + 1 ≤ _; omega) (fun t e' tk' => ?_)
    show resX _ _ (.sl .no 1 (strL (wrR ac nm un)))
    unfold wrR
    rw [if_pos h4]
    exact .inl (.inl ⟨rfl, rfl⟩)
  · have h4 : ac ≠ 4 := beq_eq_false_iff_ne.1 h4
    show resX _ _ (.sl .no 1 (strL (wrR ac nm un)))
    unfold wrR
    rw [if_neg h4]
    exact .inl (.inl ⟨rfl, rfl⟩)
end
end Go.Proofs.YtgkhnllgmfjhpaaGreatDoor
