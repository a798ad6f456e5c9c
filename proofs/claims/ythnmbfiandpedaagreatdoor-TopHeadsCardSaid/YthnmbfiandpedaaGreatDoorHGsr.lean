/- First lines of heads: requests and responses, walked. No statement of its own. -/
import Derived.Test.YthnmbfiandpedaaGreatDoorHGtt
import Derived.Test.YthnmbfiandpedaaGreatDoorHGpa
set_option linter.unusedSimpArgs false
set_option linter.unusedVariables false
set_option maxRecDepth 100000
namespace Go.Proofs.YthnmbfiandpedaaGreatDoor
open Go.RowKit
section
variable {st : St} {p k n : Nat} {s : ByteArray} {R : AV → St → Prop}
theorem mnr_m (h : Sc st p s k) (hn : n ≤ st.tk.length) (hR : ∀ st', Mv n (· = p) st st' → Sc st' p s (mnrA s k).2.2 → R (.tup [.i (mnrA s k).1, .b (mnrA s k).2.1]) st') : ACalls Tryz.prog 111 [.agg [.ptr p 0]] st R := by
  have hlt := h.lt
  have hb : (st.heap ++ [[AV.ptr p 0]])[st.heap.length]? = some [.ptr p 0] := by simp
  have m0 : Mv n (· = p) st ⟨st.heap ++ [[.ptr p 0]], st.tk⟩ := (Mv.refl hn).alloc _
  have h' : Sc ⟨st.heap ++ [[.ptr p 0]], st.tk⟩ p s k := ⟨ap h.at', h.le, h.max⟩
  refine ACalls.of_vc T_ok mixed Tryz.func111 rfl Tryz.call111 ?_
  refine ⟨h.lt, ?_⟩
  refine ⟨_, hb, ?_⟩
  refine .s (ver_m (n := n) h' hn (fun S1 m1 hs1 => ?_))
  have fin := hR _ (m0.trans m1 (fun _ _ h => h)) hs1
  unfold mnrA at fin
  clear hR
  generalize verA s k = D at *
  obtain ⟨a, b, o, j⟩ := D
  dsimp only at fin ⊢
  cases o with
  | false => exact fin
  | true =>
    refine cnd_split (fun h1 => ?_) (fun h1 => ?_)
    · rw [show (a == 1) = true from h1] at fin
      exact fin
    · rw [show (a == 1) = false from h1] at fin
      exact fin
end
theorem oth_p (s : ByteArray) (hs : s.size ≤ 4000000000) : APure Tryz.prog 107 [.s s] (.b (othA s)) [] := by
  have hmx : maxLen = 9223372036854775807 := rfl
  refine APure.of rfl (ACalls.of_vc T_ok mixed Tryz.func107 rfl Tryz.call107 ?_)
  refine .s (new_a ?_)
  refine ⟨_, rfl, ?_⟩
  have hS : Sc ⟨[[.s s, .i 0], [.ptr 0 0]], []⟩ 0 s 0 := ⟨rfl, Nat.zero_le _, by omega⟩
  have h1 : ([[.s s, .i 0], [.ptr 0 0]] : List (List AV))[1]? = some [.ptr 0 0] := rfl
  refine ⟨_, rfl, ?_⟩
  refine .s (ver_m (n := 0) hS (Nat.zero_le _) (fun S1 m1 hs1 => ?_))
  have h1 := m1.at' h1 (by decide)
  unfold othA
  have hle := verA_le (s := s) (k := 0) (Nat.zero_le _)
  generalize verA s 0 = D at *
  obtain ⟨a, b, o, j⟩ := D
  dsimp only at hs1 hle ⊢
  cases o with
  | false => exact retb rfl
  | true =>
    refine ⟨_, h1, ?_⟩
    refine .s (end_a hs1 ?_)
    cases he : decide (s.size ≤ j) with
    | false => exact retb (by rfl)
    | true =>
      refine cnd_split (fun h2 => ?_) (fun h2 => ?_)
      · have h2 : (a == 1) = false := by simpa using h2
        exact retb (by rw [h2]; rfl)
      · have h2 : (a == 1) = true := by simpa using h2
        exact retb (by rw [h2]; simp)
end Go.Proofs.YthnmbfiandpedaaGreatDoor
/- First lines of heads: requests, walked. No statement of its own. -/
set_option linter.unusedSimpArgs false
set_option linter.unusedVariables false
set_option maxRecDepth 100000
namespace Go.Proofs.YthnmbfiandpedaaGreatDoor
open Go.RowKit
theorem nbl_f : ByteF 110 nblI := fun n _ _ => by
  refine APure.of rfl (ACalls.of_vc T_ok mixed Tryz.func110 rfl Tryz.call110 ?_)
  exact retb rfl
theorem lat {h : List (List AV)} {x : List AV} : (h ++ [x])[h.length]? = some x := by simp
abbrev hzC : List AV := [.i 0, .s ⟨#[]⟩, .s ⟨#[]⟩, .i 0, .s ⟨#[]⟩, .i 0, .nilS]
abbrev tgZ : List AV := [.i 0, .s ⟨#[]⟩, .i 0, .s ⟨#[]⟩, .i 0, .s ⟨#[]⟩, .s ⟨#[]⟩, .b false]
abbrev hoC : List AV := [.i 1, .s ⟨#[]⟩, .s ⟨#[]⟩, .i 0, .s ⟨#[]⟩, .i 0, .nilS]
theorem tokenN_m {st : St} {p k n m : Nat} {s : ByteArray} {R : AV → St → Prop} (h : Sc st p s k) (hn : n ≤ st.tk.length) (hm : k + tw tokI s k = m) (hR : ∀ st', Mv n (· = p) st st' → Sc st' p s m → R (.tup [.s (s.extract k m), .b (!decide (tw tokI s k = 0))]) st') : ACalls Tryz.prog 84 [.ptr p 0] st R := by
  subst hm
  refine token_a h ?_
  exact hR _ ((Mv.refl (C := (· = p)) hn).sc (p := p) (fun _ => rfl) s _) (h.sc (tw_le tokI s k h.le))
set_option maxHeartbeats 4000000 in
theorem req_p (s : ByteArray) (hs : s.size ≤ 1000000000) : APure Tryz.prog 61 [.s s] (.tup [hxA (reqA s).1 .nilS, .i (reqA s).2]) [] := by
  have hmx : maxLen = 9223372036854775807 := rfl
  have hl := lastByte_p s 32 (by omega)
  have hle := lastN_eq s 32
  rw [hle.1] at hl
  have hle2 := hle.2
  clear hle
  have hxs : (s.extract (lastN s 32) s.size).size ≤ 4000000000 := by rw [ByteArray.size_extract]; omega
  have ho := oth_p (s.extract (lastN s 32) s.size) hxs
  have hZ : reqA s = match othA (s.extract (lastN s 32) s.size) with
    | true => (.zero, 26)
    | false => match reqOk s with
      | true => (⟨1, s.extract 0 (tw tokI s 0), s.extract (reqK1 s) (reqQ s), 0, ⟨#[]⟩, (mnrA s (reqK2 s)).1⟩, 0)
      | false => (.zero, 20) := rfl
  generalize reqA s = Z at hZ ⊢
  refine APure.of rfl (ACalls.of_vc T_ok mixed Tryz.func61 rfl Tryz.call61 ?_)
  refine ⟨_, rfl, ?_⟩
  refine .p rfl hl ?_
  intro c hc
  rw [IntWalk.i64_in _ (by omega)] at hc
  obtain rfl : c = ((lastN s 32 : Nat) : Int) := by omega
  refine ⟨lastN s 32, rfl, hle2, Nat.le_refl _, ?_⟩
  generalize s.extract (lastN s 32) s.size = x at ho hZ ⊢
  refine .p rfl ho ?_
  cases hox : othA x with
  | true =>
    rw [hox] at hZ
    subst hZ
    refine ⟨_, rfl, ?_⟩
    exact ⟨_, rfl, rfl⟩
  | false =>
  rw [hox] at hZ
  refine .s (new_a ?_)
  refine ⟨_, rfl, ?_⟩
  have hS : Sc ⟨[hzC, hoC, [.s s, .i 0], [.ptr 2 0]], []⟩ 2 s 0 := ⟨rfl, Nat.zero_le _, by omega⟩
  have v0 : ([hzC, hoC, [.s s, .i 0], [.ptr 2 0]] : List (List AV))[0]? = some hzC := rfl
  have v1 : ([hzC, hoC, [.s s, .i 0], [.ptr 2 0]] : List (List AV))[1]? = some hoC := rfl
  have v3 : ([hzC, hoC, [.s s, .i 0], [.ptr 2 0]] : List (List AV))[3]? = some [.ptr 2 0] := rfl
  refine ⟨_, rfl, ?_⟩
  have ha := tw_le tokI s 0 (Nat.zero_le _)
  rw [Nat.zero_add] at ha
  refine .s (tokenN_m (n := 0) (m := tw tokI s 0) hS (Nat.zero_le _) (Nat.zero_add _) (fun S1 m1 hs1 => ?_))
  have v0 := m1.at' v0 (by decide)
  have v1 := m1.at' v1 (by decide)
  have v3 := m1.at' v3 (by decide)
  refine ⟨_, v3, ?_⟩
  refine .s (byteN_m (n := 0) hs1 (Nat.zero_le _) 32 (fun S2 m2 hs2 => ?_))
  have v0 := m2.at' v0 (by decide)
  have v1 := m2.at' v1 (by decide)
  have v3 := m2.at' v3 (by decide)
  refine ⟨_, v3, ?_⟩
  have hk1 : nxB s (tw tokI s 0) 32 = reqK1 s := rfl
  rw [hk1] at hs2
  have hq : reqK1 s + tw nblI s (reqK1 s) = reqQ s := rfl
  refine .s (while_m (n := 0) (m := reqQ s) nbl_f hs2 (Nat.zero_le _) hq (fun S3 m3 hs3 => ?_))
  have v0 := m3.at' v0 (by decide)
  have v1 := m3.at' v1 (by decide)
  have v3 := m3.at' v3 (by decide)
  refine ⟨_, v3, ?_⟩
  refine .s (byteN_m (n := 0) hs3 (Nat.zero_le _) 32 (fun S4 m4 hs4 => ?_))
  have v0 := m4.at' v0 (by decide)
  have v1 := m4.at' v1 (by decide)
  have v3 := m4.at' v3 (by decide)
  have hk2 : nxB s (reqQ s) 32 = reqK2 s := rfl
  rw [hk2] at hs4
  refine ⟨_, v3, ?_⟩
  refine .s (mnr_m (n := 0) hs4 (Nat.zero_le _) (fun S5 m5 hs5 => ?_))
  have v0 := m5.at' v0 (by decide)
  have v1 := m5.at' v1 (by decide)
  have v3 := m5.at' v3 (by decide)
  have hts : (s.extract (reqK1 s) (reqQ s)).size ≤ 2000000000 := by rw [ByteArray.size_extract]; omega
  have htg := tgtB_p (s.extract 0 (tw tokI s 0)) (s.extract (reqK1 s) (reqQ s)) hts
  have hok : reqOk s = (!decide (tw tokI s 0 = 0) && (atB s (tw tokI s 0) 32 && (atB s (reqQ s) 32 && ((mnrA s (reqK2 s)).2.1 && (decide (s.size ≤ (mnrA s (reqK2 s)).2.2) && decide ((tgtB (s.extract 0 (tw tokI s 0)) (s.extract (reqK1 s) (reqQ s))).2 = 0)))))) := rfl
  generalize reqOk s = okk at hok hZ
  generalize tgtB (s.extract 0 (tw tokI s 0)) (s.extract (reqK1 s) (reqQ s)) = tg at htg hok
  generalize s.extract 0 (tw tokI s 0) = me at htg hZ ⊢
  generalize s.extract (reqK1 s) (reqQ s) = ta at htg hZ ⊢
  generalize mnrA s (reqK2 s) = mn at hs5 hok hZ ⊢
  obtain ⟨mi, mo, mk⟩ := mn
  obtain ⟨⟨tk, tsc, ⟨th1, th2, th3⟩, tp, tq, thq⟩, te⟩ := tg
  dsimp only at hs5 hok hZ ⊢
  refine .p rfl htg ?_
  refine ⟨_, lat, ?_⟩
  have m6 : Mv 0 (fun _ => False) S5 ⟨(S5.heap ++ [tgZ]).set S5.heap.length [.i tk, .s tsc, .i th1, .s th2, .i th3, .s tp, .s tq, .b thq], S5.tk⟩ :=
    ((Mv.refl (Nat.zero_le _)).alloc _).set (fun h => absurd h (Nat.lt_irrefl _)) _
  have v0 := m6.at' v0 (fun h => h)
  have v1 := m6.at' v1 (fun h => h)
  have v3 := m6.at' v3 (fun h => h)
  have hs6 := hs5.mv m6 (fun h => h)
  refine cnd_split (fun h1 => ?_) (fun h1 => ?_)
  · have hf : okk = false := by rw [hok]; simp only [Bool.not_not] at h1; rw [h1]; rfl
    rw [hf] at hZ
    subst hZ
    refine ⟨_, v0, ?_⟩
    exact ⟨_, st_eq v0, rfl⟩
  rw [Bool.not_eq_false'] at h1
  rw [h1, Bool.true_and] at hok
  refine cnd_split (fun h2 => ?_) (fun h2 => ?_)
  · have hf : okk = false := by rw [hok]; rw [Bool.not_eq_true'] at h2; rw [h2]; rfl
    rw [hf] at hZ
    subst hZ
    refine ⟨_, v0, ?_⟩
    exact ⟨_, st_eq v0, rfl⟩
  rw [Bool.not_eq_false'] at h2
  rw [h2, Bool.true_and] at hok
  refine cnd_split (fun h3 => ?_) (fun h3 => ?_)
  · have hf : okk = false := by rw [hok]; rw [Bool.not_eq_true'] at h3; rw [h3]; rfl
    rw [hf] at hZ
    subst hZ
    refine ⟨_, v0, ?_⟩
    exact ⟨_, st_eq v0, rfl⟩
  rw [Bool.not_eq_false'] at h3
  rw [h3, Bool.true_and] at hok
  refine cnd_split (fun h4 => ?_) (fun h4 => ?_)
  · have hf : okk = false := by rw [hok]; rw [Bool.not_eq_true'] at h4; rw [h4]; rfl
    rw [hf] at hZ
    subst hZ
    refine ⟨_, v0, ?_⟩
    exact ⟨_, st_eq v0, rfl⟩
  rw [Bool.not_eq_false'] at h4
  rw [h4, Bool.true_and] at hok
  refine ⟨_, v3, ?_⟩
  refine .s (end_a hs6 ?_)
  refine cnd_split (fun h5 => ?_) (fun h5 => ?_)
  · have hf : okk = false := by rw [hok]; rw [Bool.not_eq_true'] at h5; rw [h5]; rfl
    rw [hf] at hZ
    subst hZ
    refine ⟨_, v0, ?_⟩
    exact ⟨_, st_eq v0, rfl⟩
  rw [Bool.not_eq_false'] at h5
  rw [h5, Bool.true_and] at hok
  refine cnd_split (fun h6 => ?_) (fun h6 => ?_)
  · have hf : okk = false := by rw [hok]; exact decide_eq_false (by simpa using h6)
    rw [hf] at hZ
    subst hZ
    refine ⟨_, v0, ?_⟩
    exact ⟨_, st_eq v0, rfl⟩
  have ht : okk = true := by rw [hok]; exact decide_eq_true (by simpa using h6)
  rw [ht] at hZ
  subst hZ
  refine ⟨_, v1, ?_⟩
  refine ⟨_, st_eq v1, ?_⟩
  refine ⟨_, st_eq (st_eq v1), ?_⟩
  refine ⟨_, st_eq (st_eq (st_eq v1)), ?_⟩
  refine ⟨_, st_ne (by decide) (st_ne (by decide) (st_ne (by decide) v0)), ?_⟩
  exact ⟨_, st_eq (st_ne (by decide) (st_ne (by decide) (st_ne (by decide) v0))), rfl⟩
end Go.Proofs.YthnmbfiandpedaaGreatDoor
/- First lines of heads: responses, walked; any first line. No statement of its own. -/
set_option linter.unusedSimpArgs false
set_option linter.unusedVariables false
set_option maxRecDepth 100000
namespace Go.Proofs.YthnmbfiandpedaaGreatDoor
open Go.RowKit
theorem digF : ByteF 115 digI := fun n _ _ => isDigit_p n
theorem valF : ByteF 55 valI := fun n _ _ => isValue_p n
set_option maxHeartbeats 4000000 in
theorem sts_p (s : ByteArray) (hs : s.size ≤ 1000000000) : APure Tryz.prog 62 [.s s] (.tup [hxA (stsA s).1 .nilS, .i (stsA s).2]) [] := by
  have hmx : maxLen = 9223372036854775807 := rfl
  have hc := cutA_p s spS (by omega)
  have hcl := cutA_le s spS
  have ho := oth_p (cutA s spS).1 (by omega)
  have hZ : stsA s = match othA (cutA s spS).1 with
    | true => (.zero, 26)
    | false => match stsOk s with
      | true => (⟨2, ⟨#[]⟩, ⟨#[]⟩, (stsC s).1, s.extract (stsK2 s) s.size, (mnrA s 0).1⟩, 0)
      | false => (.zero, 20) := rfl
  generalize stsA s = Z at hZ ⊢
  generalize cutA s spS = q0 at hc hcl ho hZ
  obtain ⟨c1, c2, c3⟩ := q0
  dsimp only at hc ho hZ
  refine APure.of rfl (ACalls.of_vc T_ok mixed Tryz.func62 rfl Tryz.call62 ?_)
  refine .p rfl hc ?_
  refine .p rfl ho ?_
  cases hox : othA c1 with
  | true =>
    rw [hox] at hZ
    subst hZ
    refine ⟨_, rfl, ?_⟩
    exact ⟨_, rfl, rfl⟩
  | false =>
  rw [hox] at hZ
  refine .s (new_a ?_)
  refine ⟨_, rfl, ?_⟩
  have hS : Sc ⟨[hzC, [.s s, .i 0], [.ptr 1 0]], []⟩ 1 s 0 := ⟨rfl, Nat.zero_le _, by omega⟩
  have v0 : ([hzC, [.s s, .i 0], [.ptr 1 0]] : List (List AV))[0]? = some hzC := rfl
  have v2 : ([hzC, [.s s, .i 0], [.ptr 1 0]] : List (List AV))[2]? = some [.ptr 1 0] := rfl
  refine ⟨_, rfl, ?_⟩
  refine .s (mnr_m (n := 0) hS (Nat.zero_le _) (fun S1 m1 hs1 => ?_))
  have v0 := m1.at' v0 (by decide)
  have v2 := m1.at' v2 (by decide)
  refine ⟨_, v2, ?_⟩
  refine .s (byteN_m (n := 0) hs1 (Nat.zero_le _) 32 (fun S2 m2 hs2 => ?_))
  have v0 := m2.at' v0 (by decide)
  have v2 := m2.at' v2 (by decide)
  have hk1 : nxB s (mnrA s 0).2.2 32 = stsK1 s := rfl
  rw [hk1] at hs2
  have hq : stsK1 s + tw digI s (stsK1 s) = stsQ s := rfl
  refine ⟨_, v2, ?_⟩
  refine .s (while_m (n := 0) (m := stsQ s) digF hs2 (Nat.zero_le _) hq (fun S3 m3 hs3 => ?_))
  have v0 := m3.at' v0 (by decide)
  have v2 := m3.at' v2 (by decide)
  refine ⟨_, v2, ?_⟩
  refine .s (byteN_m (n := 0) hs3 (Nat.zero_le _) 32 (fun S4 m4 hs4 => ?_))
  have v0 := m4.at' v0 (by decide)
  have v2 := m4.at' v2 (by decide)
  have hk2 : nxB s (stsQ s) 32 = stsK2 s := rfl
  rw [hk2] at hs4
  have hqs := hs3.le
  have hcs : (s.extract (stsK1 s) (stsQ s)).size = stsQ s - stsK1 s := by rw [ByteArray.size_extract]; omega
  have hd := nuDec_p (s.extract (stsK1 s) (stsQ s)) (by omega) 599 (by decide)
  have hok : stsOk s = ((mnrA s 0).2.1 && (atB s (mnrA s 0).2.2 32 && (atB s (stsQ s) 32 && (decide (stsQ s - stsK1 s = 3) && (decide ((readG 10 (s.extract (stsK1 s) (stsQ s)) 599).2 = 0) && (decide (100 ≤ (readG 10 (s.extract (stsK1 s) (stsQ s)) 599).1) && allI valI (s.extract (stsK2 s) s.size))))))) := rfl
  have hcd : stsC s = readG 10 (s.extract (stsK1 s) (stsQ s)) 599 := rfl
  rw [hcd] at hZ
  generalize stsOk s = okk at hok hZ
  rw [← hcs] at hok
  generalize s.extract (stsK1 s) (stsQ s) = cd at hd hok hZ hcs ⊢
  generalize readG 10 cd 599 = rd at hd hok hZ
  obtain ⟨xv, xe⟩ := rd
  generalize mnrA s 0 = mn at hs1 hok hZ hk1 ⊢
  obtain ⟨mi, mo, mk⟩ := mn
  dsimp only at hd hok hZ ⊢
  refine .p rfl hd ?_
  refine cnd_split (fun h1 => ?_) (fun h1 => ?_)
  · have hf : okk = false := by rw [hok]; rw [Bool.not_eq_true'] at h1; rw [h1]; rfl
    rw [hf] at hZ
    subst hZ
    refine ⟨_, v0, ?_⟩
    exact ⟨_, st_eq v0, rfl⟩
  rw [Bool.not_eq_false'] at h1
  rw [h1, Bool.true_and] at hok
  refine cnd_split (fun h2 => ?_) (fun h2 => ?_)
  · have hf : okk = false := by rw [hok]; rw [Bool.not_eq_true'] at h2; rw [h2]; rfl
    rw [hf] at hZ
    subst hZ
    refine ⟨_, v0, ?_⟩
    exact ⟨_, st_eq v0, rfl⟩
  rw [Bool.not_eq_false'] at h2
  rw [h2, Bool.true_and] at hok
  refine cnd_split (fun h3 => ?_) (fun h3 => ?_)
  · have hf : okk = false := by rw [hok]; rw [Bool.not_eq_true'] at h3; rw [h3]; rfl
    rw [hf] at hZ
    subst hZ
    refine ⟨_, v0, ?_⟩
    exact ⟨_, st_eq v0, rfl⟩
  rw [Bool.not_eq_false'] at h3
  rw [h3, Bool.true_and] at hok
  refine cnd_split (fun h4 => ?_) (fun h4 => ?_)
  · have hf : okk = false := by rw [hok, decide_eq_false (fun e => by rw [e] at h4; cases h4)]; rfl
    rw [hf] at hZ
    subst hZ
    refine ⟨_, v0, ?_⟩
    exact ⟨_, st_eq v0, rfl⟩
  rw [decide_eq_true (by have := bne_eq_false_iff_eq.1 h4; omega), Bool.true_and] at hok
  refine cnd_split (fun h5 => ?_) (fun h5 => ?_)
  · have hf : okk = false := by rw [hok, decide_eq_false (by simpa using h5)]; rfl
    rw [hf] at hZ
    subst hZ
    refine ⟨_, v0, ?_⟩
    exact ⟨_, st_eq v0, rfl⟩
  rw [decide_eq_true (by simpa using h5 : xe = 0), Bool.true_and] at hok
  refine cnd_split (fun h6 => ?_) (fun h6 => ?_)
  · have hf : okk = false := by have := of_decide_eq_true h6; rw [hok, decide_eq_false (by omega)]; rfl
    rw [hf] at hZ
    subst hZ
    refine ⟨_, v0, ?_⟩
    exact ⟨_, st_eq v0, rfl⟩
  rw [decide_eq_true (by have := of_decide_eq_false h6; omega), Bool.true_and] at hok
  refine ⟨_, v2, ?_⟩
  refine .s (rest_a hs4 ?_)
  generalize hy : s.extract (stsK2 s) s.size = y at hok hZ ⊢
  have hys : y.size ≤ maxLen := by rw [← hy, ByteArray.size_extract]; omega
  refine .p rfl (allF_p valF y hys) ?_
  cases h7 : allI valI y with
  | false =>
    have hf : okk = false := by rw [hok, h7]
    rw [hf] at hZ
    subst hZ
    refine ⟨_, v0, ?_⟩
    exact ⟨_, st_eq v0, rfl⟩
  | true =>
    have ht : okk = true := by rw [hok, h7]
    rw [ht] at hZ
    subst hZ
    refine ⟨_, v2, ?_⟩
    refine .s (rest_a hs4 ?_)
    rw [hy]
    refine ⟨_, v0, ?_⟩
    exact ⟨_, st_eq v0, rfl⟩
end Go.Proofs.YthnmbfiandpedaaGreatDoor
/- Any first line: walked. No statement of its own. -/
set_option linter.unusedSimpArgs false
set_option linter.unusedVariables false
set_option maxRecDepth 100000
namespace Go.Proofs.YthnmbfiandpedaaGreatDoor
open Go.RowKit
set_option maxHeartbeats 4000000 in
theorem start_p (kind : Int) (s : ByteArray) (hs : s.size ≤ 1000000000) : APure Tryz.prog 36 [.i kind, .s s] (.tup [hxA (startA kind s).1 .nilS, .i (startA kind s).2]) [] := by
  have hmx : maxLen = 9223372036854775807 := rfl
  have hr := req_p s hs
  have hst := sts_p s hs
  have hZ : startA kind s = if kind ≠ 1 ∧ kind ≠ 2 then (.zero, 1)
    else if crlfB s = true then (.zero, 24)
    else if kind = 1 then reqA s else stsA s := rfl
  generalize startA kind s = Z at hZ ⊢
  generalize reqA s = R at hr hZ
  generalize stsA s = Q at hst hZ
  refine APure.of rfl (ACalls.of_vc T_ok mixed Tryz.func36 rfl Tryz.call36 ?_)
  refine cnd_split (fun h1 => ?_) (fun h1 => ?_)
  · refine cnd_split (fun h2 => ?_) (fun h2 => ?_)
    · rw [if_pos ⟨by simpa using h1, by simpa using h2⟩] at hZ
      subst hZ
      refine ⟨_, rfl, ?_⟩
      exact ⟨_, rfl, rfl⟩
    · have hk : kind = 2 := by simpa using h2
      subst hk
      rw [if_neg (by decide)] at hZ
      refine .p rfl (containsAny_p s (by omega)) ?_
      refine cnd_split (fun h3 => ?_) (fun h3 => ?_)
      · rw [if_pos h3] at hZ
        subst hZ
        refine ⟨_, rfl, ?_⟩
        exact ⟨_, rfl, rfl⟩
      · rw [if_neg (by simp [h3]), if_neg (by decide)] at hZ
        subst hZ
        refine .p rfl hst ?_
        refine ⟨_, rfl, ?_⟩
        exact ⟨_, rfl, rfl⟩
  · have hk : kind = 1 := by simpa using h1
    subst hk
    rw [if_neg (by decide)] at hZ
    refine .p rfl (containsAny_p s (by omega)) ?_
    refine cnd_split (fun h3 => ?_) (fun h3 => ?_)
    · rw [if_pos h3] at hZ
      subst hZ
      refine ⟨_, rfl, ?_⟩
      exact ⟨_, rfl, rfl⟩
    · rw [if_neg (by simp [h3]), if_pos rfl] at hZ
      subst hZ
      refine .p rfl hr ?_
      refine ⟨_, rfl, ?_⟩
      exact ⟨_, rfl, rfl⟩
end Go.Proofs.YthnmbfiandpedaaGreatDoor
/- A first line that is taken is written as it was. No statement of its own. -/
set_option linter.unusedSimpArgs false
set_option linter.unusedVariables false
set_option maxRecDepth 100000
namespace Go.Proofs.YthnmbfiandpedaaGreatDoor
open Go.RowKit
theorem dig3 : ∀ n : Nat, n < 256 → isD 10 (n : Int) = true → ∃ a : Nat, a < 10 ∧ n = 48 + a := by decide +kernel
set_option maxHeartbeats 4000000 in
theorem code3 : ∀ a : Nat, a < 10 → ∀ b : Nat, b < 10 → ∀ c : Nat, c < 10 → (readG 10 ⟨#[UInt8.ofNat (48 + a), UInt8.ofNat (48 + b), UInt8.ofNat (48 + c)]⟩ 599).2 = 0 → 100 ≤ (readG 10 ⟨#[UInt8.ofNat (48 + a), UInt8.ofNat (48 + b), UInt8.ofNat (48 + c)]⟩ 599).1 → nuT (readG 10 ⟨#[UInt8.ofNat (48 + a), UInt8.ofNat (48 + b), UInt8.ofNat (48 + c)]⟩ 599).1 = ⟨#[UInt8.ofNat (48 + a), UInt8.ofNat (48 + b), UInt8.ofNat (48 + c)]⟩ := by decide +kernel
theorem digU (b : UInt8) (h : isD 10 (b.toNat : Int) = true) : ∃ a : Nat, a < 10 ∧ b = UInt8.ofNat (48 + a) := by
  obtain ⟨a, h1, h2⟩ := dig3 b.toNat b.toNat_lt h
  refine ⟨a, h1, ?_⟩
  apply UInt8.toNat_inj.1
  rw [h2, UInt8.toNat_ofNat']
  omega
theorem code_back {d : ByteArray} (hd : d.size = 3) (h0 : (readG 10 d 599).2 = 0) (h1 : 100 ≤ (readG 10 d 599).1) : nuT (readG 10 d 599).1 = d := by
  obtain ⟨⟨l⟩⟩ := d
  have hall : allI (isD 10) ⟨⟨l⟩⟩ = true := by
    cases e : allI (isD 10) ⟨⟨l⟩⟩ with
    | true => rfl
    | false =>
      unfold readG at h0
      rw [if_pos (.inr e)] at h0
      cases h0
  have hl : l.length = 3 := hd
  match l, hl with
  | [x, y, z], _ =>
    unfold allI at hall
    simp only [List.all_cons, List.all_nil, Bool.and_eq_true] at hall
    obtain ⟨g1, g2, g3, _⟩ := hall
    obtain ⟨a, ha, rfl⟩ := digU x g1
    obtain ⟨b, hb, rfl⟩ := digU y g2
    obtain ⟨c, hc, rfl⟩ := digU z g3
    exact code3 a ha b hb c hc h0 h1
/-- a response's line is written as it was -/
theorem stsA_line {s : ByteArray} {x : HX} (h : stsA s = (x, 0)) : x.kind = 2 ∧ lineA x = s := by
  unfold stsA at h
  split at h
  · cases h
  split at h
  · rename_i hok
    cases h
    refine ⟨rfl, ?_⟩
    unfold stsOk at hok
    simp only [Bool.and_eq_true, decide_eq_true_eq] at hok
    obtain ⟨a1, a2, a3, a4, a5, a6, _⟩ := hok
    have k1 : stsK1 s = (mnrA s 0).2.2 + 1 := if_pos a2
    have k2 : stsK2 s = stsQ s + 1 := if_pos a3
    have d1 := atB_drop (b := 32) a2
    have d2 := atB_drop (b := 32) a3
    obtain ⟨n, hn, hn2, d3⟩ := mnrA_drop a1
    have hqs : stsQ s < s.size := by
      have := congrArg List.length d2
      rw [List.length_drop, List.length_cons, List.length_drop, blen] at this
      omega
    have hq : stsK1 s ≤ stsQ s := Nat.le_add_right _ _
    have hsz : (s.extract (stsK1 s) (stsQ s)).size = 3 := by
      rw [ByteArray.size_extract]; omega
    have hc : nuT (stsC s).1 = s.extract (stsK1 s) (stsQ s) := code_back hsz a5 a6
    apply inL
    unfold lineA
    dsimp only
    rw [if_pos rfl, hn2, hc]
    simp only [app_l] at d3
    simp only [app_l, extB]
    have e1 : List.drop (stsK1 s) (s.data.toList.take (stsQ s)) ++ s.data.toList.drop (stsQ s) = s.data.toList.drop (stsK1 s) := by
      rw [List.drop_take]
      conv => rhs; rw [← List.take_append_drop (stsQ s - stsK1 s) (s.data.toList.drop (stsK1 s)), List.drop_drop]
      rw [show stsK1 s + (stsQ s - stsK1 s) = stsQ s by omega]
    have e2 : spS.data.toList = [32] := rfl
    have e3 : List.take s.size s.data.toList = s.data.toList := List.take_of_length_le (by rw [blen]; omega)
    rw [e2, e3]
    rw [d1, ← k1] at d3
    simp only [List.drop_zero] at d3
    conv => rhs; rw [d3, ← e1, d2, ← k2]
    simp [List.append_assoc]
  · cases h
theorem startA_line {k : Int} {s : ByteArray} {x : HX} (h : startA k s = (x, 0)) : x.kind = k ∧ lineA x = s := by
  unfold startA at h
  split at h
  · cases h
  · rename_i hk
    split at h
    · cases h
    · split at h
      · rename_i e
        obtain ⟨h1, h2⟩ := reqA_line h
        exact ⟨by rw [h1, e], h2⟩
      · rename_i e
        obtain ⟨h1, h2⟩ := stsA_line h
        exact ⟨by rw [h1]; omega, h2⟩
theorem sameA_refl (x : HX) : sameA x x = true := by simp [sameA]
/-- what was read is written as it was -/
theorem startA_text {k : Int} {s : ByteArray} {x : HX} (h : startA k s = (x, 0)) : x.kind = k ∧ textA x = (s, 0) := by
  obtain ⟨h1, h2⟩ := startA_line h
  refine ⟨h1, ?_⟩
  unfold textA
  rw [h2, h1, h]
  rw [if_neg (by simp), if_neg (by rw [sameA_refl]; simp)]
end Go.Proofs.YthnmbfiandpedaaGreatDoor
/- First lines, written. No statement of its own. -/
set_option linter.unusedSimpArgs false
set_option linter.unusedVariables false
set_option maxRecDepth 100000
namespace Go.Proofs.YthnmbfiandpedaaGreatDoor
open Go.RowKit
theorem join3 (a b c : ByteArray) : joinC spS [a, b, c] = a ++ spS ++ b ++ spS ++ c := by
  apply inL
  unfold joinC
  have : spS.data.toList = [32] := rfl
  simp [Lib.join, app_l, this]
def lineW (x : HX) : ByteArray := x.method ++ spS ++ x.target ++ spS ++ (verS ++ nuT x.minor)
theorem lineA_two {x : HX} (h : x.kind = 2) : lineA x = verS ++ nuT x.minor ++ spS ++ nuT x.code ++ spS ++ x.reason := if_pos h
theorem lineA_one {x : HX} (h : ¬x.kind = 2) : lineA x = lineW x := if_neg h
set_option maxHeartbeats 4000000 in
theorem text_p (x : HX) (fs : List (List AV)) (hm : 0 ≤ x.minor ∧ x.minor ≤ 9223372036854775807) (hc : 0 ≤ x.code ∧ x.code ≤ 9223372036854775807) (hs : (lineA x).size ≤ 1000000000) (hw : (lineW x).size ≤ 1000000000) : APure Tryz.prog 17 [hxA x (.sl .no 2 fs)] (.tup [.s (textA x).1, .i (textA x).2]) [] := by
  have hmx : maxLen = 9223372036854775807 := rfl
  have hn1 := nuText_p x.minor (by omega) hm.1
  have hn2 := nuText_p x.code (by omega) hc.1
  have hj1 := qjoin_p spS [x.method, x.target, verS ++ nuT x.minor] (by simp) (by rw [join3]; show (lineW x).size ≤ _; omega)
  rw [join3] at hj1
  have hZ : textA x = if (startA x.kind (lineA x)).2 = 1 then (⟨#[]⟩, 1)
    else if (startA x.kind (lineA x)).2 ≠ 0 ∨ sameA (startA x.kind (lineA x)).1 x = false then (⟨#[]⟩, 20)
    else (lineA x, 0) := rfl
  have hst := start_p x.kind (lineA x) hs
  generalize textA x = Z at hZ ⊢
  obtain ⟨k, m, t, c, r, n⟩ := x
  dsimp only at hn1 hn2 hj1 hst hZ
  refine APure.of rfl (ACalls.of_vc T_ok mixed Tryz.func17 rfl Tryz.call17 ?_)
  refine ⟨_, rfl, ?_⟩
  refine .p rfl hn1 ?_
  have hvz : verS.size + (nuT n).size ≤ 1000000000 := by
    unfold lineW at hw
    simp only [app_size] at hw
    omega
  refine ⟨by show verS.size + (nuT n).size ≤ _; omega, ?_⟩
  refine ⟨_, rfl, ?_⟩
  refine ⟨_, rfl, ?_⟩
  refine .p rfl hj1 ?_
  refine ⟨_, rfl, ?_⟩
  refine cnd_split (fun h1 => ?_) (fun h1 => ?_)
  · have hk : k = 2 := by simpa using h1
    have hL := lineA_two (x := ⟨k, m, t, c, r, n⟩) hk
    dsimp only at hL
    have hj2 := qjoin_p spS [verS ++ nuT n, nuT c, r] (by simp) (by rw [join3, ← hL]; omega)
    rw [join3, ← hL] at hj2
    generalize lineA ⟨k, m, t, c, r, n⟩ = L at *
    generalize startA k L = Y at *
    obtain ⟨⟨y0, y1, y2, y3, y4, y5⟩, e⟩ := Y
    dsimp only at hst hZ
    refine .x (by kernel_rfl) ?_
    refine ⟨_, rfl, ?_⟩
    refine .p rfl hn2 ?_
    refine ⟨_, rfl, ?_⟩
    refine .p rfl hj2 ?_
    refine ⟨_, rfl, ?_⟩
    refine .p rfl hst ?_
    refine ⟨_, rfl, ?_⟩
    refine cnd_split (fun h2 => ?_) (fun h2 => ?_)
    · rw [if_pos (by simpa using h2)] at hZ
      subst hZ
      have he : e = 1 := by simpa using h2
      subst he
      show AV.stripR _ = _
      rfl
    · rw [if_neg (by simpa using h2)] at hZ
      refine ⟨_, rfl, ?_⟩
      refine ⟨_, rfl, ?_⟩
      intro u1 q1
      have q1 : u1 = true ↔ y1 = m := q1
      cases u1 with
      | false =>
        have hne : sameA ⟨y0, y1, y2, y3, y4, y5⟩ ⟨k, m, t, c, r, n⟩ = false := by
          cases hq : sameA ⟨y0, y1, y2, y3, y4, y5⟩ ⟨k, m, t, c, r, n⟩ with
          | false => rfl
          | true =>
            simp only [sameA, Bool.and_eq_true, decide_eq_true_eq, beq_iff_eq] at hq
            exact absurd (q1.2 hq.1) (by simp)
        rw [if_pos (.inr hne)] at hZ
        subst hZ
        refine cnd_split (fun h3 => ?_) (fun h3 => ?_) <;> (show AV.stripR _ = _; rfl)
      | true =>
        refine ⟨_, rfl, ?_⟩
        refine ⟨_, rfl, ?_⟩
        intro u2 q2
        have q2 : u2 = true ↔ y2 = t := q2
        cases u2 with
        | false =>
          have hne : sameA ⟨y0, y1, y2, y3, y4, y5⟩ ⟨k, m, t, c, r, n⟩ = false := by
            cases hq : sameA ⟨y0, y1, y2, y3, y4, y5⟩ ⟨k, m, t, c, r, n⟩ with
            | false => rfl
            | true =>
              simp only [sameA, Bool.and_eq_true, decide_eq_true_eq, beq_iff_eq] at hq
              exact absurd (q2.2 hq.2.1) (by simp)
          rw [if_pos (.inr hne)] at hZ
          subst hZ
          refine cnd_split (fun h3 => ?_) (fun h3 => ?_) <;> (show AV.stripR _ = _; rfl)
        | true =>
          refine ⟨_, rfl, ?_⟩
          refine ⟨_, rfl, ?_⟩
          refine cnd_split (fun h4 => ?_) (fun h4 => ?_)
          · repeat (first | refine ⟨_, rfl, ?_⟩ | refine cnd_split (fun h => ?_) (fun h => absurd (h4.symm.trans h) (by simp)))
            refine cnd_split (fun h5 => ?_) (fun h5 => ?_)
            · repeat (first | refine ⟨_, rfl, ?_⟩ | refine cnd_split (fun h => ?_) (fun h => absurd (h5.symm.trans h) (by simp)))
              intro u3 q3
              have q3 : u3 = true ↔ y4 = r := q3
              cases u3 with
              | false =>
                have hne : sameA ⟨y0, y1, y2, y3, y4, y5⟩ ⟨k, m, t, c, r, n⟩ = false := by
                  cases hq : sameA ⟨y0, y1, y2, y3, y4, y5⟩ ⟨k, m, t, c, r, n⟩ with
                  | false => rfl
                  | true =>
                    simp only [sameA, Bool.and_eq_true, decide_eq_true_eq, beq_iff_eq] at hq
                    exact absurd (q3.2 hq.2.2.2.2) (by simp)
                rw [if_pos (.inr hne)] at hZ
                subst hZ
                repeat (refine cnd_split (fun h => ?_) (fun h => absurd (h5.symm.trans h) (by simp)))
                refine cnd_split (fun h3 => ?_) (fun h3 => ?_) <;> (show AV.stripR _ = _; rfl)
              | true =>
                have h4 : (y5 == n) = true := h4
                have h5 : (y3 == c) = true := h5
                have hsame : sameA ⟨y0, y1, y2, y3, y4, y5⟩ ⟨k, m, t, c, r, n⟩ = true := by
                  simp only [sameA, Bool.and_eq_true, decide_eq_true_eq]
                  exact ⟨q1.1 rfl, q2.1 rfl, h4, h5, q3.1 rfl⟩
                repeat (refine cnd_split (fun h => ?_) (fun h => absurd (h5.symm.trans h) (by simp)))
                refine cnd_split (fun h3 => ?_) (fun h3 => ?_)
                · rw [if_pos (.inl (by simpa using h3))] at hZ
                  subst hZ
                  show AV.stripR _ = _
                  rfl
                · rw [if_neg (by rw [hsame]; simpa using h3)] at hZ
                  subst hZ
                  show AV.stripR _ = _
                  rfl
            · repeat (first | refine ⟨_, rfl, ?_⟩ | refine cnd_split (fun h => absurd (h5.symm.trans h) (by simp)) (fun h => ?_))
              have hne : sameA ⟨y0, y1, y2, y3, y4, y5⟩ ⟨k, m, t, c, r, n⟩ = false := by
                cases hq : sameA ⟨y0, y1, y2, y3, y4, y5⟩ ⟨k, m, t, c, r, n⟩ with
                | false => rfl
                | true =>
                  simp only [sameA, Bool.and_eq_true, decide_eq_true_eq, beq_iff_eq] at hq
                  have h5 : (y3 == c) = false := h5
                  rw [hq.2.2.2.1] at h5
                  simp at h5
              rw [if_pos (.inr hne)] at hZ
              subst hZ
              refine cnd_split (fun h3 => ?_) (fun h3 => ?_) <;> (show AV.stripR _ = _; rfl)
          · repeat (first | refine ⟨_, rfl, ?_⟩ | refine cnd_split (fun h => absurd (h4.symm.trans h) (by simp)) (fun h => ?_))
            have hne : sameA ⟨y0, y1, y2, y3, y4, y5⟩ ⟨k, m, t, c, r, n⟩ = false := by
              cases hq : sameA ⟨y0, y1, y2, y3, y4, y5⟩ ⟨k, m, t, c, r, n⟩ with
              | false => rfl
              | true =>
                simp only [sameA, Bool.and_eq_true, decide_eq_true_eq, beq_iff_eq] at hq
                have h4 : (y5 == n) = false := h4
                rw [hq.2.2.1] at h4
                simp at h4
            rw [if_pos (.inr hne)] at hZ
            subst hZ
            refine cnd_split (fun h3 => ?_) (fun h3 => ?_) <;> (show AV.stripR _ = _; rfl)
  · have hk : ¬k = 2 := by simpa using h1
    have hL := lineA_one (x := ⟨k, m, t, c, r, n⟩) hk
    unfold lineW at hL
    dsimp only at hL
    rw [hL] at hst hZ
    generalize startA k (m ++ spS ++ t ++ spS ++ (verS ++ nuT n)) = Y at *
    obtain ⟨⟨y0, y1, y2, y3, y4, y5⟩, e⟩ := Y
    dsimp only at hst hZ
    refine ⟨_, rfl, ?_⟩
    refine .p rfl hst ?_
    refine ⟨_, rfl, ?_⟩
    refine cnd_split (fun h2 => ?_) (fun h2 => ?_)
    · rw [if_pos (by simpa using h2)] at hZ
      subst hZ
      have he : e = 1 := by simpa using h2
      subst he
      show AV.stripR _ = _
      rfl
    · rw [if_neg (by simpa using h2)] at hZ
      refine ⟨_, rfl, ?_⟩
      refine ⟨_, rfl, ?_⟩
      intro u1 q1
      have q1 : u1 = true ↔ y1 = m := q1
      cases u1 with
      | false =>
        have hne : sameA ⟨y0, y1, y2, y3, y4, y5⟩ ⟨k, m, t, c, r, n⟩ = false := by
          cases hq : sameA ⟨y0, y1, y2, y3, y4, y5⟩ ⟨k, m, t, c, r, n⟩ with
          | false => rfl
          | true =>
            simp only [sameA, Bool.and_eq_true, decide_eq_true_eq, beq_iff_eq] at hq
            exact absurd (q1.2 hq.1) (by simp)
        rw [if_pos (.inr hne)] at hZ
        subst hZ
        refine cnd_split (fun h3 => ?_) (fun h3 => ?_) <;> (show AV.stripR _ = _; rfl)
      | true =>
        refine ⟨_, rfl, ?_⟩
        refine ⟨_, rfl, ?_⟩
        intro u2 q2
        have q2 : u2 = true ↔ y2 = t := q2
        cases u2 with
        | false =>
          have hne : sameA ⟨y0, y1, y2, y3, y4, y5⟩ ⟨k, m, t, c, r, n⟩ = false := by
            cases hq : sameA ⟨y0, y1, y2, y3, y4, y5⟩ ⟨k, m, t, c, r, n⟩ with
            | false => rfl
            | true =>
              simp only [sameA, Bool.and_eq_true, decide_eq_true_eq, beq_iff_eq] at hq
              exact absurd (q2.2 hq.2.1) (by simp)
          rw [if_pos (.inr hne)] at hZ
          subst hZ
          refine cnd_split (fun h3 => ?_) (fun h3 => ?_) <;> (show AV.stripR _ = _; rfl)
        | true =>
          refine ⟨_, rfl, ?_⟩
          refine ⟨_, rfl, ?_⟩
          refine cnd_split (fun h4 => ?_) (fun h4 => ?_)
          · repeat (first | refine ⟨_, rfl, ?_⟩ | refine cnd_split (fun h => ?_) (fun h => absurd (h4.symm.trans h) (by simp)))
            refine cnd_split (fun h5 => ?_) (fun h5 => ?_)
            · repeat (first | refine ⟨_, rfl, ?_⟩ | refine cnd_split (fun h => ?_) (fun h => absurd (h5.symm.trans h) (by simp)))
              intro u3 q3
              have q3 : u3 = true ↔ y4 = r := q3
              cases u3 with
              | false =>
                have hne : sameA ⟨y0, y1, y2, y3, y4, y5⟩ ⟨k, m, t, c, r, n⟩ = false := by
                  cases hq : sameA ⟨y0, y1, y2, y3, y4, y5⟩ ⟨k, m, t, c, r, n⟩ with
                  | false => rfl
                  | true =>
                    simp only [sameA, Bool.and_eq_true, decide_eq_true_eq, beq_iff_eq] at hq
                    exact absurd (q3.2 hq.2.2.2.2) (by simp)
                rw [if_pos (.inr hne)] at hZ
                subst hZ
                repeat (refine cnd_split (fun h => ?_) (fun h => absurd (h5.symm.trans h) (by simp)))
                refine cnd_split (fun h3 => ?_) (fun h3 => ?_) <;> (show AV.stripR _ = _; rfl)
              | true =>
                have h4 : (y5 == n) = true := h4
                have h5 : (y3 == c) = true := h5
                have hsame : sameA ⟨y0, y1, y2, y3, y4, y5⟩ ⟨k, m, t, c, r, n⟩ = true := by
                  simp only [sameA, Bool.and_eq_true, decide_eq_true_eq]
                  exact ⟨q1.1 rfl, q2.1 rfl, h4, h5, q3.1 rfl⟩
                repeat (refine cnd_split (fun h => ?_) (fun h => absurd (h5.symm.trans h) (by simp)))
                refine cnd_split (fun h3 => ?_) (fun h3 => ?_)
                · rw [if_pos (.inl (by simpa using h3))] at hZ
                  subst hZ
                  show AV.stripR _ = _
                  rfl
                · rw [if_neg (by rw [hsame]; simpa using h3)] at hZ
                  subst hZ
                  show AV.stripR _ = _
                  rfl
            · repeat (first | refine ⟨_, rfl, ?_⟩ | refine cnd_split (fun h => absurd (h5.symm.trans h) (by simp)) (fun h => ?_))
              have hne : sameA ⟨y0, y1, y2, y3, y4, y5⟩ ⟨k, m, t, c, r, n⟩ = false := by
                cases hq : sameA ⟨y0, y1, y2, y3, y4, y5⟩ ⟨k, m, t, c, r, n⟩ with
                | false => rfl
                | true =>
                  simp only [sameA, Bool.and_eq_true, decide_eq_true_eq, beq_iff_eq] at hq
                  have h5 : (y3 == c) = false := h5
                  rw [hq.2.2.2.1] at h5
                  simp at h5
              rw [if_pos (.inr hne)] at hZ
              subst hZ
              refine cnd_split (fun h3 => ?_) (fun h3 => ?_) <;> (show AV.stripR _ = _; rfl)
          · repeat (first | refine ⟨_, rfl, ?_⟩ | refine cnd_split (fun h => absurd (h4.symm.trans h) (by simp)) (fun h => ?_))
            have hne : sameA ⟨y0, y1, y2, y3, y4, y5⟩ ⟨k, m, t, c, r, n⟩ = false := by
              cases hq : sameA ⟨y0, y1, y2, y3, y4, y5⟩ ⟨k, m, t, c, r, n⟩ with
              | false => rfl
              | true =>
                simp only [sameA, Bool.and_eq_true, decide_eq_true_eq, beq_iff_eq] at hq
                have h4 : (y5 == n) = false := h4
                rw [hq.2.2.1] at h4
                simp at h4
            rw [if_pos (.inr hne)] at hZ
            subst hZ
            refine cnd_split (fun h3 => ?_) (fun h3 => ?_) <;> (show AV.stripR _ = _; rfl)
end Go.Proofs.YthnmbfiandpedaaGreatDoor
/- What bounds a first line that was read. No statement of its own. -/
set_option linter.unusedSimpArgs false
set_option linter.unusedVariables false
set_option maxRecDepth 100000
namespace Go.Proofs.YthnmbfiandpedaaGreatDoor
open Go.RowKit
theorem readG_le {B : Nat} {d : ByteArray} {m : Nat} : 0 ≤ (readG B d m).1 ∧ (readG B d m).1 ≤ m := by
  unfold readG
  split
  · exact ⟨by simp, by simp⟩
  · split
    · exact ⟨by simp, by simp⟩
    · rename_i h
      exact ⟨by simp, by simp only; omega⟩
/-- a first line that was read -/
structure HX.Ok (x : HX) (s : ByteArray) : Prop where
  minor : 0 ≤ x.minor ∧ x.minor ≤ 1
  code : 0 ≤ x.code ∧ x.code ≤ 599
  line : lineA x = s
  lineW : (lineW x).size ≤ s.size + 2
theorem startA_ok {k : Int} {s : ByteArray} {x : HX} (h : startA k s = (x, 0)) : x.Ok s := by
  have hl := (startA_line h).2
  have key : (0 ≤ x.minor ∧ x.minor ≤ 1) ∧ (0 ≤ x.code ∧ x.code ≤ 599) ∧ (x.kind = 2 → x.method = ⟨#[]⟩ ∧ x.target = ⟨#[]⟩) := by
    unfold startA at h
    split at h
    · cases h
    · split at h
      · cases h
      · split at h
        · unfold reqA at h
          split at h
          · cases h
          split at h
          · rename_i hok
            cases h
            unfold reqOk at hok
            simp only [Bool.and_eq_true, decide_eq_true_eq] at hok
            obtain ⟨n, hn, hn2, _⟩ := mnrA_drop hok.2.2.2.1
            dsimp only
            exact ⟨by omega, by omega, by omega⟩
          · cases h
        · unfold stsA at h
          split at h
          · cases h
          split at h
          · rename_i hok
            cases h
            unfold stsOk at hok
            simp only [Bool.and_eq_true, decide_eq_true_eq] at hok
            obtain ⟨n, hn, hn2, _⟩ := mnrA_drop hok.1
            dsimp only
            have := readG_le (B := 10) (d := s.extract (stsK1 s) (stsQ s)) (m := 599)
            have hc : 0 ≤ (stsC s).1 ∧ (stsC s).1 ≤ 599 := this
            exact ⟨by omega, hc, fun _ => ⟨rfl, rfl⟩⟩
          · cases h
  obtain ⟨h1, h2, h3⟩ := key
  refine ⟨h1, h2, hl, ?_⟩
  by_cases hk : x.kind = 2
  · obtain ⟨e1, e2⟩ := h3 hk
    rw [lineA_two hk] at hl
    unfold Proofs.YthnmbfiandpedaaGreatDoor.lineW
    rw [← hl, e1, e2]
    simp only [app_size]
    have q1 : spS.size = 1 := rfl
    have q2 : (⟨#[]⟩ : ByteArray).size = 0 := rfl
    omega
  · rw [lineA_one hk] at hl
    rw [hl]
    omega
end Go.Proofs.YthnmbfiandpedaaGreatDoor
