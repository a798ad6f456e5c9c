/- Lines of rules: awake, and RuletextReads. No statement of its own. -/
import Derived.Test.YtgaidgblihnldaaGreatDoorR5
import Derived.Test.YtgaidgblihnldaaGreatDoorRuF
import Derived.Test.YtgaidgblihnldaaGreatDoorRy
set_option linter.unusedSimpArgs false
set_option linter.unusedVariables false
set_option maxRecDepth 100000
namespace Go.Proofs.YtgaidgblihnldaaGreatDoor
open Go.RowKit
def l33 : ByteArray := ⟨#[114, 101, 113, 117, 101, 115, 116, 32, 105, 102, 32, 108, 97, 99, 107, 115, 32, 88, 45, 65, 32, 115, 101, 116, 32, 88, 45, 65, 32, 34, 118, 32, 36, 123, 104, 111, 115, 116, 125, 34]⟩
def rl33 : Rl := ⟨1, 2, ⟨#[88, 45, 65]⟩, ⟨#[]⟩, 1, ⟨#[88, 45, 65]⟩, ⟨#[]⟩, [(1, ⟨#[118, 32]⟩), (2, ⟨#[104, 111, 115, 116]⟩)]⟩
theorem read33 : readRl l33 = (rl33, 0) := by kernel_rfl
theorem zeroR_ok : zeroR.Ok := ⟨Nat.zero_le _, Nat.zero_le _, Nat.zero_le _, Nat.zero_le _, Nat.zero_le _, Nat.zero_le _⟩
theorem readRl_ok {s : ByteArray} (hs : s.size ≤ 100000) : (readRl s).1.Ok := by
  unfold readRl
  cases h : ruleS s with
  | none => exact zeroR_ok
  | some y =>
    obtain ⟨x, b⟩ := y
    have := ruleS_ok hs h
    simp only
    split
    · exact zeroR_ok
    · split
      · exact this
      · exact zeroR_ok
theorem readRl_check {s : ByteArray} (h : (readRl s).2 = 0) : checkR (readRl s).1 = 0 := by
  unfold readRl at h ⊢
  cases hr : ruleS s with
  | none => rw [hr] at h; cases h
  | some y =>
    obtain ⟨x, b⟩ := y
    rw [hr] at h
    simp only at h ⊢
    split at h
    · cases h
    · rename_i hb
      rw [if_neg hb]
      split at h
      · rename_i hc; rw [if_pos hc]; exact hc
      · rename_i hc; exact absurd h hc
theorem awake33_p : APure Tryz.prog 18 [] (.b true) [] := by
  have hp := parseP_p l33 (by decide)
  rw [read33] at hp
  have hs := rsame32_p rl33 rl33 ⟨by decide, by decide, by decide, by decide, by decide, by decide⟩ ⟨by decide, by decide, by decide, by decide, by decide, by decide⟩
  rw [decide_eq_true rfl] at hs
  refine APure.of rfl (ACalls.of_vc T_ok mixed Tryz.func18 rfl Tryz.call18 ?_)
  refine .p rfl hp ?_
  refine ⟨_, rfl, ?_⟩
  refine ⟨_, rfl, ?_⟩
  refine ⟨_, rfl, ?_⟩
  refine ⟨_, rfl, ?_⟩
  refine .w (args' := [rl33.av, rl33.av]) rfl ⟨.inl (.inr ⟨_, _, rfl, rfl, ⟨.inl ⟨rfl, rfl⟩, .inl ⟨rfl, rfl⟩, .inl ⟨rfl, rfl⟩, .inl ⟨rfl, rfl⟩, .inl ⟨rfl, rfl⟩, .inl ⟨rfl, rfl⟩, .inl ⟨rfl, rfl⟩, .inl ⟨rfl, rfl⟩, trivial⟩⟩), .inl (.inr ⟨_, _, rfl, rfl, ⟨.inl ⟨rfl, rfl⟩, .inl ⟨rfl, rfl⟩, .inl ⟨rfl, rfl⟩, .inl ⟨rfl, rfl⟩, .inl ⟨rfl, rfl⟩, .inl ⟨rfl, rfl⟩, .inl ⟨rfl, rfl⟩, .inl ⟨rfl, rfl⟩, trivial⟩⟩), trivial⟩ hs ?_
  rfl
theorem ruletextReads_p (s : ByteArray) : APure Tryz.prog 4 [.s s] (.b true) [] := by
  have hz := cut400_size s
  have hp := parseP_p (cut400 s) (by omega)
  have hd := parse33_p (cut400 s) (by omega)
  have hok := readRl_ok (s := cut400 s) (by omega)
  have hck := @readRl_check (cut400 s)
  generalize readRl (cut400 s) = X at *
  obtain ⟨x, e⟩ := X
  have hs := rsame32_p x x hok hok
  rw [decide_eq_true rfl] at hs
  have hc := rcheckR_p x hok
  have hck : e = 0 → checkR x = 0 := hck
  clear hok
  generalize checkR x = c at *
  obtain ⟨sd, gk, ga, gb, ac, nm, un, ps⟩ := x
  refine APure.of rfl (ACalls.of_vc T_ok mixed Tryz.func4 rfl Tryz.call4 ?_)
  refine .p rfl awake33_p ?_
  refine ⟨_, minI_at s.size 400, Nat.zero_le _, by split <;> omega, ?_⟩
  refine .p rfl hp ?_
  refine ⟨_, rfl, ?_⟩
  refine .p rfl hd ?_
  refine ⟨_, rfl, ?_⟩
  refine ⟨_, rfl, ?_⟩
  refine ⟨_, rfl, ?_⟩
  refine .p rfl hs ?_
  refine cnd_split (fun h => ?_) (fun h => ?_)
  case refine_2 => exact absurd rfl (beq_eq_false_iff_ne.1 h)
  refine cnd_split (fun h1 => ?_) (fun h1 => ?_)
  · rfl
  · have h0 : e = 0 := bne_eq_false_iff_eq.1 h1
    have hc0 := hck h0
    subst hc0
    refine ⟨_, rfl, ?_⟩
    refine .p rfl hc ?_
    rfl
end Go.Proofs.YtgaidgblihnldaaGreatDoor
