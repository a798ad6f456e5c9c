/- A line of a rule, read by the program. No statement of its own. -/
import Derived.Test.YtgaidgblihnldaaGreatDoorRw
import Derived.Test.YtgaidgblihnldaaGreatDoorRu
set_option linter.unusedSimpArgs false
set_option linter.unusedVariables false
set_option maxRecDepth 100000
namespace Go.Proofs.YtgaidgblihnldaaGreatDoor
open Go.RowKit
section
variable {st : St} {sc rd k n : Nat} {s : ByteArray} {l : AV} {R : AV → St → Prop} {X : List PanicEntry → St → Prop}
theorem act_x {w : ByteArray} {k0 rx : Nat} {sd gk : Int} {ga gb nm : ByteArray} (hk : ActK w k0) (h : Sc st sc s k) (hm : s.size < 1000000) (hr : st.heap[rd]? = some [.ptr sc 0, .b false]) (hx : st.heap[rx]? = some [.i sd, .i gk, .s ga, .s gb, .i 0, .s nm, .s ⟨#[]⟩, .nilS]) (hne : rd ≠ sc) (hn1 : rx ≠ sc) (hn2 : rx ≠ rd) (hn : n ≤ st.tk.length)
    (hR : ActR n sc rd rx s [.i sd, .i gk, .s ga, .s gb] nm st R (actS w s k)) (hX : actS w s k = none → ∀ st', Mv n (fun q => q = sc ∨ q = rd ∨ q = rx) st st' → X (flt 2) st') :
    ACallsX Tryz.prog k0 [.ptr rd 0, .ptr rx 0] st R X := by
  have hG : actS w s k = if w = kSet then setS 1 s k else if w = kAdd then setS 2 s k else if w = kRem then some ((3, ⟨#[]⟩, [], false), k) else if w = kRen then renS s k else none := rfl
  rcases hk with ⟨rfl, rfl⟩ | ⟨rfl, rfl⟩ | ⟨rfl, rfl⟩ | ⟨rfl, rfl⟩
  · rw [if_pos rfl] at hG
    rw [hG] at hR hX
    exact set_x h hm hr hx hne hn1 hn2 hn hR hX
  · rw [if_neg (by decide +kernel), if_pos rfl] at hG
    rw [hG] at hR hX
    exact add_x h hm hr hx hne hn1 hn2 hn hR hX
  · rw [if_neg (by decide +kernel), if_neg (by decide +kernel), if_pos rfl] at hG
    rw [hG] at hR
    exact remove_x h hr hx hn1 hn2 hn hR
  · rw [if_neg (by decide +kernel), if_neg (by decide +kernel), if_neg (by decide +kernel), if_pos rfl] at hG
    rw [hG] at hR hX
    exact rename_x h hr hx hne hn1 hn2 hn hR hX
theorem pcI.w {pc : AV} {ps : List Prt} (h : pcI pc ps) : cellW pc (.sl .no 2 (prtL ps)) := by
  rcases h with rfl | ⟨rfl, rfl⟩
  · exact .inl ⟨rfl, rfl⟩
  · exact .inr ⟨rfl, 2, rfl⟩
/-- what a rule's result is made of -/
def RlR (n sc rd : Nat) (st : St) (R : AV → St → Prop) (x : Rl) : Prop :=
  ∀ st' pc, Mv n (fun q => q = sc ∨ q = rd) st st' → pcI pc x.ps → R (.agg [.i x.sd, .i x.gk, .s x.ga, .s x.gb, .i x.ac, .s x.nm, .s x.un, pc]) st'
theorem rule_x (h : Sc st sc s 0) (hsz : s.size ≤ 100000) (hr : st.heap[rd]? = some [.ptr sc 0, .b false]) (hne : rd ≠ sc) (hn : n ≤ st.tk.length)
    (hR : ∀ x, readRl s = (x, 0) → RlR n sc rd st R x) (hX : ∀ e, readRl s = (zeroR, e) → e ≠ 0 → ∀ st', Mv n (fun q => q = sc ∨ q = rd) st st' → X (flt e) st') :
    ACallsX Tryz.prog 47 [.ptr rd 0] st R X := by
  have hm : s.size < 1000000 := by omega
  have hlt := h.lt
  have hrl := lt_of hr
  have hP : readRl s = match ruleS s with
    | none => (zeroR, 2)
    | some (x, b) => if b = true then (zeroR, 3) else if checkR x = 0 then (x, 0) else (zeroR, checkR x) := rfl
  have hG : ruleS s = match sideS s (tw blkI s 0) with
    | none => none
    | some (sd, i) => match nameS s i with
      | none => none
      | some (w, j) => if w = kIf then
          (match guardS s j with
          | none => none
          | some (g, k) => match nameS s k with
            | none => none
            | some (w, k) => tailS s sd g w k)
        else tailS s sd (0, ⟨#[]⟩, ⟨#[]⟩) w j := rfl
  have hgap : gapS s 0 = some (tw blkI s 0) := by unfold gapS; rw [if_neg (fun hh => hh.2.1 rfl), Nat.zero_add]
  refine ACallsX.of_vcY (bv := false) (esc := fun i => Nat.beq i 7) T_ok mixed Tryz.func47 rfl Tryz.call47 ?_
  have m0 : Mv n (fun _ => False) st ⟨st.heap ++ [[.i 0, .i 0, .s ⟨#[]⟩, .s ⟨#[]⟩, .i 0, .s ⟨#[]⟩, .s ⟨#[]⟩, .nilS]], st.tk⟩ := (Mv.refl hn).alloc _
  have M0 : Mv n (fun q => q = sc ∨ q = rd) st ⟨st.heap ++ [[.i 0, .i 0, .s ⟨#[]⟩, .s ⟨#[]⟩, .i 0, .s ⟨#[]⟩, .s ⟨#[]⟩, .nilS]], st.tk⟩ := (Mv.refl hn).alloc _
  refine .x (gap_x (h.mv m0 (fun e => e)) (m0.at' hr (fun e => e)) hne m0.tl (fun j hj st1 m1 hs1 => ?_) (fun hj st1 m1 => by rw [hgap] at hj; cases hj))
  rw [hgap] at hj
  cases hj
  have M1 := M0.trans m1 (fun q _ e => .inl e)
  have p1 : st1.heap[st.heap.length]? = some [.i 0, .i 0, .s ⟨#[]⟩, .s ⟨#[]⟩, .i 0, .s ⟨#[]⟩, .s ⟨#[]⟩, .nilS] := m1.at' (last_at _ _) (by omega)
  have r1 := m1.at' (m0.at' hr (fun e => e)) hne
  refine .x (side_x hs1 r1 hne M1.tl (fun sd i hsd st2 m2 hs2 => ?_) (fun hsd st2 m2 => ?_))
  rotate_left
  · simp only [hsd] at hG
    exact hX 2 (by rw [hP, hG]) (by decide) _ (M1.trans m2 (fun q _ e => .inl e))
  simp only [hsd] at hG
  have M2 := M1.trans m2 (fun q _ e => .inl e)
  have p2 := m2.at' p1 (by omega)
  have r2 := m2.at' r1 hne
  have l2 := lt_of p2
  refine ⟨_, last_at _ _, ?_⟩
  have x3 := last_upd st2.heap [AV.i 0, AV.i 0, AV.s ⟨#[]⟩, AV.s ⟨#[]⟩, AV.i 0, AV.s ⟨#[]⟩, AV.s ⟨#[]⟩, AV.nilS] [AV.i sd, AV.i 0, AV.s ⟨#[]⟩, AV.s ⟨#[]⟩, AV.i 0, AV.s ⟨#[]⟩, AV.s ⟨#[]⟩, AV.nilS]
  have M3 : Mv n (fun q => q = sc ∨ q = rd) st ⟨(st2.heap ++ [[AV.i 0, AV.i 0, AV.s ⟨#[]⟩, AV.s ⟨#[]⟩, AV.i 0, AV.s ⟨#[]⟩, AV.s ⟨#[]⟩, AV.nilS]]).set st2.heap.length [AV.i sd, AV.i 0, AV.s ⟨#[]⟩, AV.s ⟨#[]⟩, AV.i 0, AV.s ⟨#[]⟩, AV.s ⟨#[]⟩, AV.nilS], st2.tk⟩ := (M2.alloc _).set (fun h => by have := M2.len; omega) _
  have hs3 : Sc ⟨(st2.heap ++ [[AV.i 0, AV.i 0, AV.s ⟨#[]⟩, AV.s ⟨#[]⟩, AV.i 0, AV.s ⟨#[]⟩, AV.s ⟨#[]⟩, AV.nilS]]).set st2.heap.length [AV.i sd, AV.i 0, AV.s ⟨#[]⟩, AV.s ⟨#[]⟩, AV.i 0, AV.s ⟨#[]⟩, AV.s ⟨#[]⟩, AV.nilS], st2.tk⟩ sc s i := ⟨(List.getElem?_set_ne (by omega)).trans (ap hs2.at'), hs2.le, hs2.max⟩
  have r3 : ((st2.heap ++ [[AV.i 0, AV.i 0, AV.s ⟨#[]⟩, AV.s ⟨#[]⟩, AV.i 0, AV.s ⟨#[]⟩, AV.s ⟨#[]⟩, AV.nilS]]).set st2.heap.length [AV.i sd, AV.i 0, AV.s ⟨#[]⟩, AV.s ⟨#[]⟩, AV.i 0, AV.s ⟨#[]⟩, AV.s ⟨#[]⟩, AV.nilS])[rd]? = some [.ptr sc 0, .b false] := (List.getElem?_set_ne (by omega)).trans (ap r2)
  have p3 : ((st2.heap ++ [[AV.i 0, AV.i 0, AV.s ⟨#[]⟩, AV.s ⟨#[]⟩, AV.i 0, AV.s ⟨#[]⟩, AV.s ⟨#[]⟩, AV.nilS]]).set st2.heap.length [AV.i sd, AV.i 0, AV.s ⟨#[]⟩, AV.s ⟨#[]⟩, AV.i 0, AV.s ⟨#[]⟩, AV.s ⟨#[]⟩, AV.nilS])[st.heap.length]? = _ := (List.getElem?_set_ne (by omega)).trans (ap p2)
  have M2l := M2.len
  refine .x (name_x hs3 r3 hne M3.tl (fun w j hw st4 m4 hs4 => ?_) (fun hw st4 m4 => ?_))
  rotate_left
  · simp only [hw] at hG
    exact hX 2 (by rw [hP, hG]) (by decide) _ (M3.trans m4 (fun q _ e => .inl e))
  simp only [hw] at hG
  have M4 := M3.trans (D := (· = sc)) m4 (fun q _ e => .inl e)
  have x4 := m4.at' x3 (by omega)
  have p4 := m4.at' p3 (by omega)
  have r4 := m4.at' r3 hne
  intro t ht
  cases t with
  | true =>
    have e1 : w = kIf := ht.1 rfl
    rw [if_pos e1] at hG
    refine .x (guard_x hs4 hm r4 hne M4.tl (fun g j5 hg st5 m5 hs5 => ?_) (fun hg st5 m5 => ?_))
    rotate_left
    · simp only [hg] at hG
      exact hX 2 (by rw [hP, hG]) (by decide) _ (M4.trans m5 (fun q _ e => .inl e))
    simp only [hg] at hG
    have M5 := M4.trans (D := (· = sc)) m5 (fun q _ e => .inl e)
    have x5 := m5.at' x4 (by omega)
    have p5 := m5.at' p4 (by omega)
    have r5 := m5.at' r4 hne
    refine ⟨_, x5, ?_⟩
    have x6 := st_eq (x := [AV.i sd, AV.i g.1, AV.s g.2.1, AV.s g.2.2, AV.i 0, AV.s ⟨#[]⟩, AV.s ⟨#[]⟩, AV.nilS]) x5
    have hs6 : Sc ⟨st5.heap.set st2.heap.length [AV.i sd, AV.i g.1, AV.s g.2.1, AV.s g.2.2, AV.i 0, AV.s ⟨#[]⟩, AV.s ⟨#[]⟩, AV.nilS], st5.tk⟩ sc s j5 := ⟨(List.getElem?_set_ne (by omega)).trans hs5.at', hs5.le, hs5.max⟩
    have M6 : Mv n (fun q => q = sc ∨ q = rd) st ⟨st5.heap.set st2.heap.length [AV.i sd, AV.i g.1, AV.s g.2.1, AV.s g.2.2, AV.i 0, AV.s ⟨#[]⟩, AV.s ⟨#[]⟩, AV.nilS], st5.tk⟩ := Mv.set M5 (fun h => by omega) _
    have r6 : (st5.heap.set st2.heap.length [AV.i sd, AV.i g.1, AV.s g.2.1, AV.s g.2.2, AV.i 0, AV.s ⟨#[]⟩, AV.s ⟨#[]⟩, AV.nilS])[rd]? = some [.ptr sc 0, .b false] := (List.getElem?_set_ne (by omega)).trans r5
    have p6 := (List.getElem?_set_ne (a := [AV.i sd, AV.i g.1, AV.s g.2.1, AV.s g.2.2, AV.i 0, AV.s ⟨#[]⟩, AV.s ⟨#[]⟩, AV.nilS]) (i := st2.heap.length) (j := st.heap.length) (l := st5.heap) (by omega)).trans p5
    refine .x (name_x hs6 r6 hne M6.tl (fun w j hw st7 m7 hS => ?_) (fun hw st7 m7 => ?_))
    rotate_left
    · simp only [hw] at hG
      exact hX 2 (by rw [hP, hG]) (by decide) _ (M6.trans m7 (fun q _ e => .inl e))
    simp only [hw] at hG
    have hT : ruleS s = tailS s sd g w j := hG
    have hxS := m7.at' x6 (by omega)
    have hpS := m7.at' p6 (by omega)
    have hrS := m7.at' r6 hne
    have M := M6.trans (D := (· = sc)) m7 (fun q _ e => .inl e)
    refine acts_sem (bv := false) rfl ⟨rfl, rfl, rfl, rfl, rfl⟩ ⟨rfl, rfl, rfl⟩ ⟨rfl, rfl, rfl⟩ (by decide) rfl rfl (fun act ok ha => ?_)
    rcases ha with ⟨k0, hk0, rfl, rfl⟩ | ⟨n1, n2, n3, n4, rfl, rfl⟩
    rotate_left
    · refine .x (must_x false (fun e => by cases e) (fun _ => hX 2 ?_ (by decide) _ M))
      have : ruleS s = none := by
        rw [hT]
        unfold tailS
        split
        · rfl
        · unfold actS
          rw [if_neg n1, if_neg n2, if_neg n3, if_neg n4]
      rw [hP, this]
    refine .x (must_x true (fun _ => ?_) (fun e => by cases e))
    have hT2 : ruleS s = match nameS s j with
      | none => none
      | some (nm, i) => match actS w s i with
        | none => none
        | some ((z, to, ps, b), j) => if j < s.size then none else some (⟨sd, g.1, g.2.1, g.2.2, z, nm, to, ps⟩, b) := hT
    refine .x (name_x hS hrS hne M.tl (fun nm i3 hnm st3 m3 hs3 => ?_) (fun hnm st3 m3 => ?_))
    rotate_left
    · simp only [hnm] at hT2
      exact hX 2 (by rw [hP, hT2]) (by decide) _ (M.trans m3 (fun q _ e => .inl e))
    simp only [hnm] at hT2
    have M3 := M.trans (D := (· = sc)) m3 (fun q _ e => .inl e)
    have x3 := m3.at' hxS (by omega)
    have p3 := m3.at' hpS (by omega)
    have r3 := m3.at' hrS hne
    refine ⟨_, x3, ?_⟩
    have x4 := st_eq (x := [AV.i sd, AV.i g.1, AV.s g.2.1, AV.s g.2.2, AV.i 0, AV.s nm, AV.s ⟨#[]⟩, AV.nilS]) x3
    have hs4 : Sc ⟨st3.heap.set st2.heap.length [AV.i sd, AV.i g.1, AV.s g.2.1, AV.s g.2.2, AV.i 0, AV.s nm, AV.s ⟨#[]⟩, AV.nilS], st3.tk⟩ sc s i3 := ⟨(List.getElem?_set_ne (by omega)).trans hs3.at', hs3.le, hs3.max⟩
    have M4 : Mv n (fun q => q = sc ∨ q = rd) st ⟨st3.heap.set st2.heap.length [AV.i sd, AV.i g.1, AV.s g.2.1, AV.s g.2.2, AV.i 0, AV.s nm, AV.s ⟨#[]⟩, AV.nilS], st3.tk⟩ := Mv.set M3 (fun h => by omega) _
    have r4 : (st3.heap.set st2.heap.length [AV.i sd, AV.i g.1, AV.s g.2.1, AV.s g.2.2, AV.i 0, AV.s nm, AV.s ⟨#[]⟩, AV.nilS])[rd]? = some [.ptr sc 0, .b false] := (List.getElem?_set_ne (by omega)).trans r3
    have p4 := (List.getElem?_set_ne (a := [AV.i sd, AV.i g.1, AV.s g.2.1, AV.s g.2.2, AV.i 0, AV.s nm, AV.s ⟨#[]⟩, AV.nilS]) (i := st2.heap.length) (j := st.heap.length) (l := st3.heap) (by omega)).trans p3
    refine .x (act_x hk0 hs4 hm r4 x4 hne (by omega) (by omega) M4.tl (fun a j haj st5 pc m5 hs5 r5 x5 hpc => ?_) (fun haj st5 m5 => ?_))
    rotate_left
    · simp only [haj] at hT2
      exact hX 2 (by rw [hP, hT2]) (by decide) _ (M4.trans m5 (fun q hq e => by omega))
    obtain ⟨z, to, ps, b⟩ := a
    simp only [haj] at hT2
    have M5 := M4.trans m5 (fun q hq e => by omega)
    have p5 := m5.at' p4 (by omega)
    refine ⟨_, r5, ?_⟩
    refine .s (end_a hs5 ?_)
    refine .x (must_x _ (fun he => ?_) (fun he => ?_))
    rotate_left
    · have he := of_decide_eq_false he
      rw [if_pos (by omega)] at hT2
      exact hX 2 (by rw [hP, hT2]) (by decide) _ M5
    have he := of_decide_eq_true he
    rw [if_neg (by omega)] at hT2
    have hok := ruleS_ok hsz hT2
    rw [hT2] at hP
    refine ⟨_, r5, ?_⟩
    cases b with
    | true =>
      refine .x (fail_x 3 (hX 3 ?_ (by decide) _ M5))
      rw [hP]; rfl
    | false =>
      have x6 := x5
      have p6 := p5
      have M6 := M5
      have hP : readRl s = if checkR ⟨sd, g.1, g.2.1, g.2.2, z, nm, to, ps⟩ = 0 then (⟨sd, g.1, g.2.1, g.2.2, z, nm, to, ps⟩, 0) else (zeroR, checkR ⟨sd, g.1, g.2.1, g.2.2, z, nm, to, ps⟩) := hP
      rcases hpc with rfl | ⟨rfl, hps⟩
      · skip
        refine ⟨_, x6, ?_⟩
        refine .w (args' := [(⟨sd, g.1, g.2.1, g.2.2, z, nm, to, ps⟩ : Rl).av]) rfl ⟨.inl (.inr ⟨_, _, rfl, rfl, .inl ⟨rfl, rfl⟩, .inl ⟨rfl, rfl⟩, .inl ⟨rfl, rfl⟩, .inl ⟨rfl, rfl⟩, .inl ⟨rfl, rfl⟩, .inl ⟨rfl, rfl⟩, .inl ⟨rfl, rfl⟩, .inl ⟨rfl, rfl⟩, trivial⟩), trivial⟩ (rcheckR_p _ hok) ?_
        refine cnd_split (fun hc => ?_) (fun hc => ?_)
        · have hc : checkR ⟨sd, g.1, g.2.1, g.2.2, z, nm, to, ps⟩ ≠ 0 := by simpa using hc
          rw [if_neg hc] at hP
          refine .x (fail_x _ (hX _ hP hc _ M6))
        · have hc : checkR ⟨sd, g.1, g.2.1, g.2.2, z, nm, to, ps⟩ = 0 := by simpa using hc
          rw [if_pos hc] at hP
          refine ⟨_, x6, ?_⟩
          refine ⟨_, p6, ?_⟩
          have p7 := st_eq (x := [AV.i sd, AV.i g.1, AV.s g.2.1, AV.s g.2.2, AV.i z, AV.s nm, AV.s to, AV.sl .no 2 (prtL ps)]) p6
          refine ⟨_, p7, ?_⟩
          exact hR _ hP _ _ (Mv.set M6 (fun h => by omega) _) (.inl rfl)
      · have hps : ps = [] := hps
        subst hps
        refine ⟨_, x6, ?_⟩
        refine .w (args' := [(⟨sd, g.1, g.2.1, g.2.2, z, nm, to, []⟩ : Rl).av]) rfl ⟨.inl (.inr ⟨_, _, rfl, rfl, .inl ⟨rfl, rfl⟩, .inl ⟨rfl, rfl⟩, .inl ⟨rfl, rfl⟩, .inl ⟨rfl, rfl⟩, .inl ⟨rfl, rfl⟩, .inl ⟨rfl, rfl⟩, .inl ⟨rfl, rfl⟩, .inr ⟨rfl, 2, rfl⟩, trivial⟩), trivial⟩ (rcheckR_p _ hok) ?_
        refine cnd_split (fun hc => ?_) (fun hc => ?_)
        · have hc : checkR ⟨sd, g.1, g.2.1, g.2.2, z, nm, to, []⟩ ≠ 0 := by simpa using hc
          rw [if_neg hc] at hP
          refine .x (fail_x _ (hX _ hP hc _ M6))
        · have hc : checkR ⟨sd, g.1, g.2.1, g.2.2, z, nm, to, []⟩ = 0 := by simpa using hc
          rw [if_pos hc] at hP
          refine ⟨_, x6, ?_⟩
          refine ⟨_, p6, ?_⟩
          have p7 := st_eq (x := [AV.i sd, AV.i g.1, AV.s g.2.1, AV.s g.2.2, AV.i z, AV.s nm, AV.s to, AV.nilS]) p6
          refine ⟨_, p7, ?_⟩
          exact hR _ hP _ _ (Mv.set M6 (fun h => by omega) _) (.inr ⟨rfl, rfl⟩)
  | false =>
    have e1 : ¬ w = kIf := fun e => by have := ht.2 e; cases this
    rw [if_neg e1] at hG
    obtain ⟨g, hg⟩ : ∃ g : Gd, g = (0, ⟨#[]⟩, ⟨#[]⟩) := ⟨_, rfl⟩
    have hT : ruleS s = tailS s sd g w j := by rw [hg]; exact hG
    have hxS : st4.heap[st2.heap.length]? = some [.i sd, .i g.1, .s g.2.1, .s g.2.2, .i 0, .s ⟨#[]⟩, .s ⟨#[]⟩, .nilS] := by rw [hg]; exact x4
    have hS := hs4
    have hrS := r4
    have hpS := p4
    have M := M4
    refine acts_sem (bv := false) rfl ⟨rfl, rfl, rfl, rfl, rfl⟩ ⟨rfl, rfl, rfl⟩ ⟨rfl, rfl, rfl⟩ (by decide) rfl rfl (fun act ok ha => ?_)
    rcases ha with ⟨k0, hk0, rfl, rfl⟩ | ⟨n1, n2, n3, n4, rfl, rfl⟩
    rotate_left
    · refine .x (must_x false (fun e => by cases e) (fun _ => hX 2 ?_ (by decide) _ M))
      have : ruleS s = none := by
        rw [hT]
        unfold tailS
        split
        · rfl
        · unfold actS
          rw [if_neg n1, if_neg n2, if_neg n3, if_neg n4]
      rw [hP, this]
    refine .x (must_x true (fun _ => ?_) (fun e => by cases e))
    have hT2 : ruleS s = match nameS s j with
      | none => none
      | some (nm, i) => match actS w s i with
        | none => none
        | some ((z, to, ps, b), j) => if j < s.size then none else some (⟨sd, g.1, g.2.1, g.2.2, z, nm, to, ps⟩, b) := hT
    refine .x (name_x hS hrS hne M.tl (fun nm i3 hnm st3 m3 hs3 => ?_) (fun hnm st3 m3 => ?_))
    rotate_left
    · simp only [hnm] at hT2
      exact hX 2 (by rw [hP, hT2]) (by decide) _ (M.trans m3 (fun q _ e => .inl e))
    simp only [hnm] at hT2
    have M3 := M.trans (D := (· = sc)) m3 (fun q _ e => .inl e)
    have x3 := m3.at' hxS (by omega)
    have p3 := m3.at' hpS (by omega)
    have r3 := m3.at' hrS hne
    refine ⟨_, x3, ?_⟩
    have x4 := st_eq (x := [AV.i sd, AV.i g.1, AV.s g.2.1, AV.s g.2.2, AV.i 0, AV.s nm, AV.s ⟨#[]⟩, AV.nilS]) x3
    have hs4 : Sc ⟨st3.heap.set st2.heap.length [AV.i sd, AV.i g.1, AV.s g.2.1, AV.s g.2.2, AV.i 0, AV.s nm, AV.s ⟨#[]⟩, AV.nilS], st3.tk⟩ sc s i3 := ⟨(List.getElem?_set_ne (by omega)).trans hs3.at', hs3.le, hs3.max⟩
    have M4 : Mv n (fun q => q = sc ∨ q = rd) st ⟨st3.heap.set st2.heap.length [AV.i sd, AV.i g.1, AV.s g.2.1, AV.s g.2.2, AV.i 0, AV.s nm, AV.s ⟨#[]⟩, AV.nilS], st3.tk⟩ := Mv.set M3 (fun h => by omega) _
    have r4 : (st3.heap.set st2.heap.length [AV.i sd, AV.i g.1, AV.s g.2.1, AV.s g.2.2, AV.i 0, AV.s nm, AV.s ⟨#[]⟩, AV.nilS])[rd]? = some [.ptr sc 0, .b false] := (List.getElem?_set_ne (by omega)).trans r3
    have p4 := (List.getElem?_set_ne (a := [AV.i sd, AV.i g.1, AV.s g.2.1, AV.s g.2.2, AV.i 0, AV.s nm, AV.s ⟨#[]⟩, AV.nilS]) (i := st2.heap.length) (j := st.heap.length) (l := st3.heap) (by omega)).trans p3
    refine .x (act_x hk0 hs4 hm r4 x4 hne (by omega) (by omega) M4.tl (fun a j haj st5 pc m5 hs5 r5 x5 hpc => ?_) (fun haj st5 m5 => ?_))
    rotate_left
    · simp only [haj] at hT2
      exact hX 2 (by rw [hP, hT2]) (by decide) _ (M4.trans m5 (fun q hq e => by omega))
    obtain ⟨z, to, ps, b⟩ := a
    simp only [haj] at hT2
    have M5 := M4.trans m5 (fun q hq e => by omega)
    have p5 := m5.at' p4 (by omega)
    refine ⟨_, r5, ?_⟩
    refine .s (end_a hs5 ?_)
    refine .x (must_x _ (fun he => ?_) (fun he => ?_))
    rotate_left
    · have he := of_decide_eq_false he
      rw [if_pos (by omega)] at hT2
      exact hX 2 (by rw [hP, hT2]) (by decide) _ M5
    have he := of_decide_eq_true he
    rw [if_neg (by omega)] at hT2
    have hok := ruleS_ok hsz hT2
    rw [hT2] at hP
    refine ⟨_, r5, ?_⟩
    cases b with
    | true =>
      refine .x (fail_x 3 (hX 3 ?_ (by decide) _ M5))
      rw [hP]; rfl
    | false =>
      have x6 := x5
      have p6 := p5
      have M6 := M5
      have hP : readRl s = if checkR ⟨sd, g.1, g.2.1, g.2.2, z, nm, to, ps⟩ = 0 then (⟨sd, g.1, g.2.1, g.2.2, z, nm, to, ps⟩, 0) else (zeroR, checkR ⟨sd, g.1, g.2.1, g.2.2, z, nm, to, ps⟩) := hP
      rcases hpc with rfl | ⟨rfl, hps⟩
      · skip
        refine ⟨_, x6, ?_⟩
        refine .w (args' := [(⟨sd, g.1, g.2.1, g.2.2, z, nm, to, ps⟩ : Rl).av]) rfl ⟨.inl (.inr ⟨_, _, rfl, rfl, .inl ⟨rfl, rfl⟩, .inl ⟨rfl, rfl⟩, .inl ⟨rfl, rfl⟩, .inl ⟨rfl, rfl⟩, .inl ⟨rfl, rfl⟩, .inl ⟨rfl, rfl⟩, .inl ⟨rfl, rfl⟩, .inl ⟨rfl, rfl⟩, trivial⟩), trivial⟩ (rcheckR_p _ hok) ?_
        refine cnd_split (fun hc => ?_) (fun hc => ?_)
        · have hc : checkR ⟨sd, g.1, g.2.1, g.2.2, z, nm, to, ps⟩ ≠ 0 := by simpa using hc
          rw [if_neg hc] at hP
          refine .x (fail_x _ (hX _ hP hc _ M6))
        · have hc : checkR ⟨sd, g.1, g.2.1, g.2.2, z, nm, to, ps⟩ = 0 := by simpa using hc
          rw [if_pos hc] at hP
          refine ⟨_, x6, ?_⟩
          refine ⟨_, p6, ?_⟩
          have p7 := st_eq (x := [AV.i sd, AV.i g.1, AV.s g.2.1, AV.s g.2.2, AV.i z, AV.s nm, AV.s to, AV.sl .no 2 (prtL ps)]) p6
          refine ⟨_, p7, ?_⟩
          exact hR _ hP _ _ (Mv.set M6 (fun h => by omega) _) (.inl rfl)
      · have hps : ps = [] := hps
        subst hps
        refine ⟨_, x6, ?_⟩
        refine .w (args' := [(⟨sd, g.1, g.2.1, g.2.2, z, nm, to, []⟩ : Rl).av]) rfl ⟨.inl (.inr ⟨_, _, rfl, rfl, .inl ⟨rfl, rfl⟩, .inl ⟨rfl, rfl⟩, .inl ⟨rfl, rfl⟩, .inl ⟨rfl, rfl⟩, .inl ⟨rfl, rfl⟩, .inl ⟨rfl, rfl⟩, .inl ⟨rfl, rfl⟩, .inr ⟨rfl, 2, rfl⟩, trivial⟩), trivial⟩ (rcheckR_p _ hok) ?_
        refine cnd_split (fun hc => ?_) (fun hc => ?_)
        · have hc : checkR ⟨sd, g.1, g.2.1, g.2.2, z, nm, to, []⟩ ≠ 0 := by simpa using hc
          rw [if_neg hc] at hP
          refine .x (fail_x _ (hX _ hP hc _ M6))
        · have hc : checkR ⟨sd, g.1, g.2.1, g.2.2, z, nm, to, []⟩ = 0 := by simpa using hc
          rw [if_pos hc] at hP
          refine ⟨_, x6, ?_⟩
          refine ⟨_, p6, ?_⟩
          have p7 := st_eq (x := [AV.i sd, AV.i g.1, AV.s g.2.1, AV.s g.2.2, AV.i z, AV.s nm, AV.s to, AV.nilS]) p6
          refine ⟨_, p7, ?_⟩
          exact hR _ hP _ _ (Mv.set M6 (fun h => by omega) _) (.inr ⟨rfl, rfl⟩)
end
end Go.Proofs.YtgaidgblihnldaaGreatDoor
