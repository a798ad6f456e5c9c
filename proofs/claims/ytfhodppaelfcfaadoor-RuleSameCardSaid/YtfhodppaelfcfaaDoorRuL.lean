/- Rules: awake; the names that they write; RuleKnows. No statement of its own. -/
import Derived.Test.YtfhodppaelfcfaaDoorRu
set_option linter.unusedSimpArgs false
set_option linter.unusedVariables false
set_option maxRecDepth 100000
namespace Go.Proofs.YtfhodppaelfcfaaDoor
open Go.RowKit
def rlA : Rl := ⟨2, 0, ⟨#[]⟩, ⟨#[]⟩, 2, ⟨#[88]⟩, ⟨#[]⟩, [(2, ⟨#[115, 116, 97, 116, 117, 115]⟩)]⟩
def rlB : Rl := ⟨1, 0, ⟨#[]⟩, ⟨#[]⟩, 2, ⟨#[88]⟩, ⟨#[]⟩, [(2, ⟨#[115, 116, 97, 116, 117, 115]⟩)]⟩
def rlC : Rl := ⟨1, 0, ⟨#[]⟩, ⟨#[]⟩, 1, ⟨#[86, 105, 97]⟩, ⟨#[]⟩, []⟩
theorem awake32_p : APure Tryd.prog 54 [] (.b true) [] := by
  have ha := rcheckR_p rlA ⟨by decide, by decide, by decide, by decide, by decide, by decide⟩
  have hb := rcheckR_p rlB ⟨by decide, by decide, by decide, by decide, by decide, by decide⟩
  have hc := rcheckR_p rlC ⟨by decide, by decide, by decide, by decide, by decide, by decide⟩
  rw [show checkR rlA = 0 by decide +kernel] at ha
  rw [show checkR rlB = 9 by decide +kernel] at hb
  rw [show checkR rlC = 9 by decide +kernel] at hc
  refine APure.of rfl (ACalls.of_vc T_ok mixed Tryd.func54 rfl Tryd.call54 ?_)
  refine ⟨_, rfl, ?_⟩
  refine ⟨_, rfl, ?_⟩
  refine ⟨_, rfl, ?_⟩
  refine ⟨_, rfl, ?_⟩
  refine ⟨_, rfl, ?_⟩
  refine .w (args' := [rlA.av]) rfl ⟨.inl (.inr ⟨_, _, rfl, rfl, ⟨.inl ⟨rfl, rfl⟩, .inl ⟨rfl, rfl⟩, .inl ⟨rfl, rfl⟩, .inl ⟨rfl, rfl⟩, .inl ⟨rfl, rfl⟩, .inl ⟨rfl, rfl⟩, .inl ⟨rfl, rfl⟩, .inl ⟨rfl, rfl⟩, trivial⟩⟩), trivial⟩ ha ?_
  refine ⟨_, rfl, ?_⟩
  refine .w (args' := [rlB.av]) rfl ⟨.inl (.inr ⟨_, _, rfl, rfl, ⟨.inl ⟨rfl, rfl⟩, .inl ⟨rfl, rfl⟩, .inl ⟨rfl, rfl⟩, .inl ⟨rfl, rfl⟩, .inl ⟨rfl, rfl⟩, .inl ⟨rfl, rfl⟩, .inl ⟨rfl, rfl⟩, .inl ⟨rfl, rfl⟩, trivial⟩⟩), trivial⟩ hb ?_
  refine .w (args' := [rlC.av]) rfl ⟨.inl (.inr ⟨_, _, rfl, rfl, ⟨.inl ⟨rfl, rfl⟩, .inl ⟨rfl, rfl⟩, .inl ⟨rfl, rfl⟩, .inl ⟨rfl, rfl⟩, .inl ⟨rfl, rfl⟩, .inl ⟨rfl, rfl⟩, .inl ⟨rfl, rfl⟩, .inr ⟨rfl, 2, rfl⟩, trivial⟩⟩), trivial⟩ hc ?_
  rfl
def wrR (ac : Int) (a b : ByteArray) : List ByteArray := if ac = 4 then [foldB a, foldB b] else [foldB a]
theorem app_tight {st : St} {i : TI} {e : List AV} {es ys : List (List AV)} {tg : Tk} {K : AV → St → Prop} (hy : ys ≠ []) (hb : ((e :: es).length + ys.length) * i.bytes ≤ 140737488355328) (hm : (e :: es).length + ys.length ≤ maxLen)
    (hK : ∀ t e' tk', K (.sl (.own t e') i.size (e :: es ++ ys)) ⟨st.heap, tk'⟩) : vcApp i (.sl .tight i.size (e :: es)) (.sl tg i.size ys) st K := by
  unfold vcApp srcA
  simp only [decide_true]
  exact ⟨fun e => absurd e hy, fun _ => ⟨hb, hm, hK _ _ _⟩⟩
section
attribute [local irreducible] vcApp
end
theorem ruleKnows_p (s : ByteArray) (n : Int) : APure Tryd.prog 12 [.s s, .i n] (.b true) [] := by
  have hmx : maxLen = 9223372036854775807 := rfl
  have b3 : (s.extract 0 (if 60 < s.size then 60 else s.size)).size ≤ 60 := by rw [ByteArray.size_extract]; split <;> omega
  have hl := knowL_len n
  have hq := same6_p (knowL n) (knowL n) (by omega) (by omega)
  rw [decide_eq_true rfl] at hq
  refine APure.of rfl (ACalls.of_vc T_ok mixed Tryd.func12 rfl Tryd.call12 ?_)
  refine .p rfl awake32_p ?_
  refine ⟨_, minI_at s.size 60, Nat.zero_le _, by split <;> omega, ?_⟩
  generalize s.extract 0 (if 60 < s.size then 60 else s.size) = t at *
  have hf := foldB_size t
  have h1 := kept_p t (by omega)
  have h2 := kept32_p t (by omega)
  have h3 := foldR_p t (by omega)
  have h4 := kept_p (foldB t) (by omega)
  rw [keptR_fold] at h4
  generalize keptR t = q at *
  generalize foldB t = f at *
  cases q with
  | true =>
    refine .p rfl h1 ?_
    refine .p rfl h2 ?_
    refine .p rfl h3 ?_
    refine .p rfl h4 ?_
    refine .p rfl h1 ?_
    refine .p rfl (knownW_p n) ?_
    refine .p rfl (known32_p n) ?_
    refine .p rfl hq ?_
    rfl
  | false =>
    refine .p rfl h1 ?_
    refine .p rfl h2 ?_
    refine .p rfl h3 ?_
    refine .p rfl h4 ?_
    refine .p rfl h1 ?_
    refine .p rfl (knownW_p n) ?_
    refine .p rfl (known32_p n) ?_
    refine .p rfl hq ?_
    rfl
end Go.Proofs.YtfhodppaelfcfaaDoor
