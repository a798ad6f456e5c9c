/- Arguments said less of, in calls that turn the state; a row that is being built, by its form. No statement of its own. -/
import Derived.Test.YticbonkojpabnaaGreatDoorSSa
set_option linter.unusedSimpArgs false
set_option linter.unusedVariables false
set_option maxRecDepth 100000
namespace Go.Proofs.YticbonkojpabnaaGreatDoor
open Go.RowKit
def argV (a a':AV):Prop:=a'=a \/ a'=a.strip \/ (a=.nilS/\∃ sz,a'=.sl .no sz [])
def ArgsV:List AV->List AV->Prop
 | [],[]=>True
 | a::r,a'::r'=>argV a a'/\ArgsV r r'
 | _,_=>False
theorem ArgsV.at':∀ {l l':List AV},ArgsV l l'->l.length=l'.length/\∀ (j:Nat) a',l'[j]? = some a'->∃ a,l[j]? = some a/\argV a a'
 | [],[],_=>⟨rfl,fun j a h=>by simp at h⟩
 | a::r,b::r',h=>by
  obtain ⟨h1,h2⟩:=h
  obtain ⟨i1,i2⟩:=ArgsV.at' h2
  refine ⟨by simp [i1],fun j a' hj=>?_⟩
  cases j with
  | zero=>simp at hj; subst hj; exact ⟨a,rfl,h1⟩
  | succ j=>simpa using i2 j a' (by simpa using hj)
 | [],_::_,h=>h.elim
 | _::_,[],h=>h.elim
theorem Acc.form {n:Nat} {tk:List Nat} {sz:Nat} {a:AV} {es:List (List AV)} (h:Acc n tk sz a es):a=.nilS \/ ∃ t e,a=.sl (.own t e) sz es:=by
 cases h with
 | nil=>exact .inl rfl
 | own t e es hn ht=>exact .inr ⟨t,e,rfl⟩
theorem Acc.argW {n:Nat} {tk:List Nat} {sz:Nat} {a:AV} {es:List (List AV)} (h:Acc n tk sz a es):argW a (.sl .no sz es):=by
 cases h with
 | nil=>exact .inr ⟨rfl,sz,rfl⟩
 | own t e es hn ht=>exact .inl (.inl ⟨rfl,rfl⟩)
end Go.Proofs.YticbonkojpabnaaGreatDoor
