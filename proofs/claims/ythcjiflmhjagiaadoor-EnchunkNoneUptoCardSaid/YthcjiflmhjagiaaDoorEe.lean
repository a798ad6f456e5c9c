/- The law of an encoder that is nil, or whose end has a trailer that may not be. No statement of its own. -/
import Derived.Test.YthcjiflmhjagiaaDoorEd
set_option linter.unusedSimpArgs false
set_option linter.unusedVariables false
set_option maxRecDepth 100000
namespace Go.Proofs.YthcjiflmhjagiaaDoor
open Go.RowKit
theorem lastW_one (f : Fld) : (lastW [f]).2 = checkF f := by
  unfold lastW
  have e : lastE [f] = checkF f := by
    rw [lastE]
    by_cases h : checkF f ≠ 0
    · rw [if_pos h]
    · rw [if_neg h]
      exact (Decidable.not_not.1 h).symm
  rw [e]
  by_cases h : checkF f ≠ 0
  · rw [if_pos h]
  · rw [if_neg h, if_neg (by simp)]
    exact (Decidable.not_not.1 h).symm
theorem enchunkNone_p (n : Int) (s0 : ByteArray) (f : Fld) (hf : f.1.size + f.2.size ≤ 1048576) : APure Tryd.prog 5 [.i n, .s s0, .agg [.s f.1, .s f.2]] (.b true) [] := by
  have hmx : maxLen = 9223372036854775807 := rfl
  obtain ⟨m, hm, hm1, hm2, hm3⟩ := cutS 300 s0
  have hmin := minI_at s0.size 300
  rw [← hm] at hmin
  obtain ⟨s, hs⟩ : ∃ s, s = s0.extract 0 m := ⟨_, rfl⟩
  rw [← hs] at hm3
  have hz : ∀ g ∈ [f], g.1.size ≤ 1100000 ∧ g.2.size ≤ 1100000 := fun g hg => by
    rcases List.mem_cons.1 hg with rfl | hg
    · omega
    · cases hg
  have h1w := lastW_one f
  have hck := rcheck_p f.1 f.2 (by omega) (by omega)
  have hemp : (⟨#[]⟩ ++ s : ByteArray) = s := toInj (by rw [app_l']; rfl)
  have fin : ∀ R : AV → St → Prop, True := fun _ => trivial
  refine APure.of rfl ?_
  refine ACalls.of_vc T_ok mixed Tryd.func5 rfl Tryd.call5 ?_
  refine .p rfl awake20_p ?_
  refine ⟨m, hmin, Nat.zero_le _, hm1, ?_⟩
  rw [← hs]
  refine .s (put20_nil ?_)
  refine ⟨_, rfl, ?_⟩
  refine .s (end20_nil (tg := .tight) (l := [f]) ?_)
  refine .s (kept20_nil ?_)
  refine .s (new20_a n (fun h => ?_) (fun h => ?_))
  · refine cnd_split (fun _ => rfl) (fun h2 => ?_)
    have h2 := of_decide_eq_false h2
    exact retb (decide_eq_true (by omega))
  obtain ⟨z, rfl⟩ := Int.eq_ofNat_of_zero_le (show 0 ≤ n by omega)
  have hal := rall20_p z s [] (by omega) (by simp) (fun f h => by cases h)
  have hE : allE z s [] = (putE z s ++ (pieceW (restE z s) ++ (lastW []).1), 0) := by
    unfold allE
    rw [if_neg h, if_neg (by rw [lastW_nil]; exact fun h => h rfl)]
    rfl
  rw [hE] at hal
  have hrl := restE_le z s
  have hpe := putE_le (size := z) (s := s) (by omega)
  have hpw := pieceW_size (s := restE z s) (by omega)
  have hl5 : (lastW []).1.size = 5 := by rw [lastW_nil]; rfl
  refine .s (put20_a (size := z) (buf := ⟨#[]⟩) s (by omega) (by omega) (by rw [hemp]; omega) (last_at _ _) (fun st1 m1 h1 => ?_))
  rw [hemp] at h1 ⊢
  have k1 : st1.heap[0]? = some [.s f.1, .s f.2] := m1.at' (cs := [.s f.1, .s f.2]) rfl (by simp)
  refine ⟨_, k1, ?_⟩
  refine .s (end20_a (tg := .tight) [f] (by simp) hz (by omega) h1 (fun h2 => ?_) (fun h2 st2 m2 h3 => ?_))
  · refine .s (end20_n (by omega) h1 (fun st3 m3 h4 => ?_))
    refine .w (args' := [.i z, .s s, .sl .no 2 []]) rfl ⟨.inl (.inl ⟨rfl, rfl⟩), .inl (.inl ⟨rfl, rfl⟩), .inr ⟨rfl, 2, rfl⟩, trivial⟩ hal ?_
    have k3 := m3.at' k1 (by simp)
    refine ⟨_, k3, ?_⟩
    refine .p rfl hck ?_
    rw [h1w] at h2 ⊢
    refine cnd_split (fun _ => ?_) (fun h5 => absurd (bne_eq_false_iff_eq.1 h5) h2)
    refine cnd_split (fun _ => ?_) (fun h5 => absurd (bne_eq_false_iff_eq.1 h5) h2)
    intro t ht
    obtain rfl : t = true := ht.2 rfl
    refine ⟨by show (putE z s).size + (pieceW (restE z s) ++ (lastW []).1).size ≤ _; rw [app_size]; omega, ?_⟩
    intro t ht
    obtain rfl : t = true := ht.2 rfl
    rfl
  · have k2 := m2.at' k1 (by simp)
    refine .s (end20_done (.inl rfl) h3 ?_)
    refine .w (args' := [.i z, .s s, .sl .no 2 []]) rfl ⟨.inl (.inl ⟨rfl, rfl⟩), .inl (.inl ⟨rfl, rfl⟩), .inr ⟨rfl, 2, rfl⟩, trivial⟩ hal ?_
    refine ⟨_, k2, ?_⟩
    refine .p rfl hck ?_
    rw [h1w] at h2
    refine cnd_split (fun h5 => absurd h2 (bne_iff_ne.1 h5)) (fun _ => ?_)
    intro t ht
    obtain rfl : t = true := ht.2 rfl
    rfl
end Go.Proofs.YthcjiflmhjagiaaDoor
