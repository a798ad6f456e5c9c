/- The law of a whole body, encoded and decoded. No statement of its own. -/
import Derived.Test.YthcjiflmhjagiaaGreatDoorDo
set_option linter.unusedSimpArgs false
set_option linter.unusedVariables false
set_option maxRecDepth 100000
namespace Go.Proofs.YthcjiflmhjagiaaGreatDoor
open Go.RowKit
theorem allE_big {n : Int} {s : ByteArray} {l : List Fld} (hb : s.size ≤ 1000000) (hl : l.length ≤ 1000) (hz : ∀ f ∈ l, f.1.size ≤ 1100000 ∧ f.2.size ≤ 1100000) : (allE n s l).1.size ≤ 5000000000 := by
  have h3 := lastW_size hl hz
  unfold allE
  split
  · exact Nat.zero_le _
  split
  · exact Nat.zero_le _
  · have h1 := putE_le (size := n.toNat) (s := s) (by omega)
    have h2 := restE_le n.toNat s
    have h4 := pieceW_size (s := restE n.toNat s) (by omega)
    show (putE n.toNat s ++ (pieceW (restE n.toNat s) ++ (lastW l).1)).size ≤ _
    rw [app_size, app_size]
    omega
set_option maxHeartbeats 2000000 in
theorem enchunkAll_p (n : Int) (s0 : ByteArray) (fs : List Fld) : APure Tryz.prog 3 [.i n, .s s0, .sl .no 2 (fldL fs)] (.b true) [] := by
  have hmx : maxLen = 9223372036854775807 := rfl
  obtain ⟨m, hm, hm1, hm2, hm3⟩ := cutS 3000 s0
  have hmin := minI_at s0.size 3000
  rw [← hm] at hmin
  obtain ⟨s, hs⟩ : ∃ s, s = s0.extract 0 m := ⟨_, rfl⟩
  rw [← hs] at hm3
  have qf := few19_p fs
  have hgz : ∀ f ∈ (fs.take 105).map cutF, f.1.size ≤ 50 ∧ f.2.size ≤ 200 := fun f hf => by
    obtain ⟨q, _, rfl⟩ := List.mem_map.1 hf
    exact cutF_size q
  have hgl : ((fs.take 105).map cutF).length ≤ 105 := by rw [List.length_map, List.length_take]; omega
  generalize (fs.take 105).map cutF = gs at qf hgz hgl
  have hgz2 : ∀ f ∈ gs, f.1.size ≤ 1100000 ∧ f.2.size ≤ 1100000 := fun f hf => by have := hgz f hf; omega
  have qa := rall20_p n s gs (by omega) (by omega) hgz2
  have hbig := allE_big (n := n) (s := s) (l := gs) (by omega) (by omega) hgz2
  have hE : allE n s gs = if n < 1 ∨ 65536 < n then (⟨#[]⟩, 1) else if (lastW gs).2 ≠ 0 then (⟨#[]⟩, (lastW gs).2) else (putE n.toNat s ++ (pieceW (restE n.toNat s) ++ (lastW gs).1), 0) := rfl
  have hrun := allE_run (size := n.toNat) s gs (by omega)
  refine APure.of rfl ?_
  refine ACalls.of_vc T_ok mixed Tryz.func3 rfl Tryz.call3 ?_
  refine .p rfl awake20_p ?_
  refine .x (by kernel_rfl) ?_
  refine ⟨m, hmin, Nat.zero_le _, hm1, ?_⟩
  rw [← hs]
  refine .p rfl qf ?_
  refine .s (all20_a (tg := .no) n s gs (by omega) (by omega) hgz2 (fun st' => ?_))
  refine .p rfl qa ?_
  generalize allE n s gs = Z at hE hbig ⊢
  obtain ⟨W, e⟩ := Z
  dsimp only at hbig
  intro t ht
  obtain rfl := ht.2 rfl
  refine cnd_split (fun h => absurd rfl (bne_iff_ne.1 h)) (fun _ => ?_)
  refine cnd_split (fun _ => ?_) (fun h => ?_)
  · rfl
  have h : e = 0 := bne_eq_false_iff_eq.1 h
  subst h
  have hr : ¬ (n < 1 ∨ 65536 < n) := fun h => by rw [if_pos h] at hE; cases hE
  rw [if_neg hr] at hE
  have hw : (lastW gs).2 = 0 := Decidable.byContradiction fun h => by rw [if_pos h] at hE; exact h (Prod.mk.inj hE).2.symm
  rw [if_neg (fun h => h hw)] at hE
  have hW := (Prod.mk.inj hE).1
  obtain ⟨X, hX, hXt, hXl⟩ := hrun hw hgz []
  rw [List.append_nil, ← hW] at hX
  refine .s (newD_a 65536 (fun h => absurd h (by omega)) (fun m2 hm2 hm3 => ?_))
  obtain rfl : m2 = 65536 := by omega
  refine .s (feed_a (newD_DI _ 65536) (Dc.new_In 65536) (by decide) (by decide) W (by omega) (fun st' ln' tr' o x hx ho kp hdi => ?_))
  obtain rfl := hx.symm.trans hX
  have ho : o = s := by
    apply toInj
    rw [ho]
  subst ho
  refine cnd_split (fun _ => ?_) (fun h2 => absurd rfl (beq_eq_false_iff_ne.1 h2))
  intro t ht
  cases t with
  | false => have := ht.2 rfl; cases this
  | true =>
    refine .s (trlD_a hdi (by show X.tr.length ≤ _; rw [hXt]; omega) (fun he => ?_) (fun t e tk' q1 q2 => ?_))
    · have he : X.tr = [] := he
      have hg0 : gs = [] := hXt.symm.trans he
      have q9 := same12D_p [] gs (by decide) (by omega)
      refine .p rfl q9 ?_
      exact retb (decide_eq_true hg0.symm)
    · have q9 := same12D_p X.tr gs (by rw [hXt]; omega) (by omega)
      refine .p rfl q9 ?_
      exact retb (decide_eq_true hXt)
end Go.Proofs.YthcjiflmhjagiaaGreatDoor
