/- Field lines read, in the program and in the document. No statement of its own. -/
import Derived.Test.YtookaenbpfpegaaDoorSx
import Derived.Test.YtookaenbpfpegaaDoorFd
import Derived.Test.YtookaenbpfpegaaDoorSm
set_option linter.unusedSimpArgs false
set_option linter.unusedVariables false
set_option maxRecDepth 100000
namespace Go.Proofs.YtookaenbpfpegaaDoor
open Go.RowKit
def fldA (f : Fld) : AV := .agg [.s f.1, .s f.2]
theorem blk_f : ByteF 138 blkI := fun n _ _ => isBlank_p n
theorem blanks_m {st : St} {p k n m : Nat} {s : ByteArray} {R : AV → St → Prop} (h : Sc st p s k) (hn : n ≤ st.tk.length) (hm : k + tw blkI s k = m) (hR : ∀ st', Mv n (· = p) st st' → Sc st' p s m → R (.s (s.extract k m)) st') : ACalls Tryd.prog 121 [.ptr p 0] st R := by
  refine ACalls.of_vc T_ok mixed Tryd.func121 rfl Tryd.call121 ?_
  refine .s (while_m blk_f h hn hm (fun st' m hs => ?_))
  exact hR _ m hs
theorem rest_m {st : St} {p k : Nat} {s x : ByteArray} {R : AV → St → Prop} (h : Sc st p s k) (hx : s.extract k s.size = x) (hR : R (.s x) st) : ACalls Tryd.prog 125 [.ptr p 0] st R := by
  subst hx
  exact rest_a h hR
theorem atB_58 (s : ByteArray) (k : Nat) : atB s k 58 = true ↔ s.data.toList[k]? = some 58 := by
  unfold atB
  cases h : s.data.toList[k]? with
  | none => simp
  | some x =>
    simp only [Option.any_some, beq_iff_eq, Option.some.injEq]
    exact ⟨fun h => UInt8.toNat_inj.1 (by show _ = 58; omega), fun h => by subst h; rfl⟩
set_option maxHeartbeats 1000000 in
theorem fparse_p (s : ByteArray) (hs : s.size ≤ 1000000) : APure Tryd.prog 106 [.s s] (.tup [fldA (parseF s).1, .i (parseF s).2]) [] := by
  have hmx : maxLen = 9223372036854775807 := rfl
  have hZ : parseF s = if crlfB s then ((.empty, .empty), 24) else if 0 < tw blkI s 0 then ((.empty, .empty), 23) else
    if tw tokI s 0 = 0 ∨ ¬ (s.data.toList[tw tokI s 0 + tw blkI s (tw tokI s 0)]? = some 58) then ((.empty, .empty), 21)
    else if tw tokI s 0 + tw blkI s (tw tokI s 0) ≠ tw tokI s 0 then ((.empty, .empty), 22)
    else if allI valI (s.extract (tw tokI s 0 + tw blkI s (tw tokI s 0) + 1) s.size) = false then ((.empty, .empty), 25)
    else ((s.extract 0 (0 + tw tokI s 0), trimB (s.extract (tw tokI s 0 + tw blkI s (tw tokI s 0) + 1) s.size)), 0) := by rw [Nat.zero_add]; rfl
  generalize parseF s = Z at hZ ⊢
  have hle := tw_le tokI s 0 (Nat.zero_le _)
  have hlb := tw_le blkI s 0 (Nat.zero_le _)
  have hlc := tw_le blkI s (tw tokI s 0) (by omega)
  refine APure.of rfl (ACalls.of_vc T_ok mixed Tryd.func106 rfl Tryd.call106 ?_)
  refine .p rfl (containsAny_p s (by omega)) ?_
  refine cnd_split (fun h => ?_) (fun h => ?_)
  · rw [if_pos h] at hZ
    subst hZ
    have h0 : ([[AV.s ⟨#[]⟩, .s ⟨#[]⟩]] : List (List AV))[0]? = some [.s ⟨#[]⟩, .s ⟨#[]⟩] := rfl
    refine ⟨_, h0, ?_⟩
    refine ⟨_, st_eq h0, ?_⟩
    rfl
  rw [if_neg (by rw [h]; decide)] at hZ
  refine .s (new_a ?_)
  have hS : Sc ⟨[[AV.s ⟨#[]⟩, .s ⟨#[]⟩]] ++ [[.s s, .i 0]], []⟩ 1 s 0 := ⟨rfl, Nat.zero_le _, by omega⟩
  have h0 : ([[AV.s ⟨#[]⟩, .s ⟨#[]⟩]] ++ [[.s s, .i 0]] : List (List AV))[0]? = some [.s ⟨#[]⟩, .s ⟨#[]⟩] := rfl
  refine .s (blanks_m (n := 0) hS (Nat.zero_le _) rfl (fun S1 m1 hs1 => ?_))
  have h0 := m1.at' h0 (by decide)
  intro t ht
  cases t with
  | true =>
    have hp : 0 < tw blkI s 0 := Decidable.byContradiction fun hc => by
      have := ht.2 ((emp_iff _).2 (by rw [ByteArray.size_extract]; omega))
      cases this
    rw [if_pos hp] at hZ
    subst hZ
    refine ⟨_, h0, ?_⟩
    refine ⟨_, st_eq h0, ?_⟩
    rfl
  | false =>
    have hp : tw blkI s 0 = 0 := by
      have := (emp_iff _).1 (ht.1 rfl)
      rw [ByteArray.size_extract] at this
      omega
    rw [if_neg (by omega)] at hZ
    rw [Nat.zero_add, hp] at hs1
    refine .s (token_m hs1 (Nat.zero_le _) (fun he S2 m2 hs2 => ?_) (fun he S2 m2 hs2 => ?_))
    · have h0 := m2.at' h0 (by decide)
      refine .s (blanks_m (n := 0) hs2 (Nat.zero_le _) rfl (fun S3 m3 hs3 => ?_))
      have h0 := m3.at' h0 (by decide)
      rw [if_pos (.inl he)] at hZ
      subst hZ
      refine ⟨_, h0, ?_⟩
      refine ⟨_, st_eq h0, ?_⟩
      rfl
    · have h0 := m2.at' h0 (by decide)
      rw [Nat.zero_add] at hs2
      refine .s (blanks_m (n := 0) hs2 (Nat.zero_le _) rfl (fun S3 m3 hs3 => ?_))
      have h0 := m3.at' h0 (by decide)
      refine .s (byte_m hs3 (Nat.zero_le _) 58 (fun hb S4 m4 hs4 => ?_) (fun hb hlt S4 m4 hs4 => ?_))
      · have h0 := m4.at' h0 (by decide)
        have hb : ¬ s.data.toList[tw tokI s 0 + tw blkI s (tw tokI s 0)]? = some 58 := fun h => by rw [(atB_58 _ _).2 h] at hb; cases hb
        rw [if_pos (.inr hb)] at hZ
        subst hZ
        refine ⟨_, h0, ?_⟩
        refine ⟨_, st_eq h0, ?_⟩
        rfl
      · have h0 := m4.at' h0 (by decide)
        have hb := (atB_58 _ _).1 hb
        rw [if_neg (fun h => h.elim he (fun h => h hb))] at hZ
        intro t ht
        cases t with
        | true =>
          have hp : tw tokI s 0 + tw blkI s (tw tokI s 0) ≠ tw tokI s 0 := fun hc => by
            have := ht.2 ((emp_iff _).2 (by rw [ByteArray.size_extract]; omega))
            cases this
          rw [if_pos hp] at hZ
          subst hZ
          refine ⟨_, h0, ?_⟩
          refine ⟨_, st_eq h0, ?_⟩
          rfl
        | false =>
          have hp : tw tokI s 0 + tw blkI s (tw tokI s 0) = tw tokI s 0 := by
            have := (emp_iff _).1 (ht.1 rfl)
            rw [ByteArray.size_extract] at this
            omega
          rw [if_neg (fun h => h hp)] at hZ
          obtain ⟨x, hx⟩ : ∃ x, s.extract (tw tokI s 0 + tw blkI s (tw tokI s 0) + 1) s.size = x := ⟨_, rfl⟩
          have hxs : x.size ≤ s.size := by rw [← hx, ByteArray.size_extract]; omega
          rw [hx] at hZ
          have ht := trim_p x spcS (by omega) (by decide) (by decide)
          rw [trimCB] at ht
          have hv := allF_p isValue_f x (by omega)
          generalize trimB x = y at hZ ht
          generalize allI valI x = v at hZ hv
          refine .s (rest_m hs4 hx ?_)
          refine .p rfl hv ?_
          cases v with
          | false =>
            rw [if_pos rfl] at hZ
            subst hZ
            refine ⟨_, h0, ?_⟩
            refine ⟨_, st_eq h0, ?_⟩
            rfl
          | true =>
            rw [if_neg (by decide)] at hZ
            refine .s (rest_m hs4 hx ?_)
            refine .p rfl ht ?_
            subst hZ
            refine ⟨_, h0, ?_⟩
            refine ⟨_, st_eq h0, ?_⟩
            rfl
end Go.Proofs.YtookaenbpfpegaaDoor
