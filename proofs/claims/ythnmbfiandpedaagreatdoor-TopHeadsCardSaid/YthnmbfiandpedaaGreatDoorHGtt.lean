/- Targets of requests: in plain words, and walked. No statement of its own. -/
import Derived.Test.YthnmbfiandpedaaGreatDoorHGhs
set_option linter.unusedSimpArgs false
set_option linter.unusedVariables false
set_option maxRecDepth 100000
namespace Go.Proofs.YthnmbfiandpedaaGreatDoor
open Go.RowKit
structure TG where
  kind : Int
  scheme : ByteArray
  host : Int × ByteArray × Int
  path : ByteArray
  query : ByteArray
  has : Bool
def TG.av (t : TG) : AV := .agg [.i t.kind, .s t.scheme, .i t.host.1, .s t.host.2.1, .i t.host.2.2, .s t.path, .s t.query, .b t.has]
def TG.zero : TG := ⟨0, ⟨#[]⟩, (0, ⟨#[]⟩, 0), ⟨#[]⟩, ⟨#[]⟩, false⟩
def tailT (t : TG) (s : ByteArray) : TG × Bool :=
  if s.size = 0 then (t, true)
  else if atB s 0 63 = true then (⟨t.kind, t.scheme, t.host, ⟨#[]⟩, (pcut (slaS ++ s)).2.1, (pcut (slaS ++ s)).2.2.1⟩, (pcut (slaS ++ s)).2.2.2 == 0)
  else (⟨t.kind, t.scheme, t.host, (pcut s).1, (pcut s).2.1, (pcut s).2.2.1⟩, (pcut s).2.2.2 == 0)
theorem tailT_p (t : TG) (s : ByteArray) (hs : s.size ≤ 3000000000) : APure Tryz.prog 219 [t.av, .s s] (.tup [(tailT t s).1.av, .b (tailT t s).2]) [] := by
  have hZ : tailT t s = if s.size = 0 then (t, true) else if atB s 0 63 = true then (⟨t.kind, t.scheme, t.host, ⟨#[]⟩, (pcut (slaS ++ s)).2.1, (pcut (slaS ++ s)).2.2.1⟩, (pcut (slaS ++ s)).2.2.2 == 0)
    else (⟨t.kind, t.scheme, t.host, (pcut s).1, (pcut s).2.1, (pcut s).2.2.1⟩, (pcut s).2.2.2 == 0) := rfl
  generalize tailT t s = Z at hZ ⊢
  have hsl : (slaS ++ s).size = s.size + 1 := by rw [app_size]; show 1 + s.size = _; omega
  have p1 := pcut_p (slaS ++ s) (by omega)
  have p2 := pcut_p s (by omega)
  generalize pcut (slaS ++ s) = c1 at hZ p1
  generalize pcut s = c2 at hZ p2
  obtain ⟨k, sc, ⟨h1, h2, h3⟩, pa, q, ha⟩ := t
  refine APure.of rfl (ACalls.of_vc T_ok mixed Tryz.func219 rfl Tryz.call219 ?_)
  intro u hu
  cases u with
  | true =>
    have h0 := (emp_iff s).1 (hu.1 rfl)
    rw [if_pos h0] at hZ
    subst hZ
    refine ⟨_, rfl, ?_⟩
    refine ⟨_, rfl, ?_⟩
    exact ⟨_, rfl, rfl⟩
  | false =>
    have h0 : 0 < s.size := by
      rcases Nat.eq_zero_or_pos s.size with h | h
      · have := hu.2 ((emp_iff s).2 h); cases this
      · exact h
    rw [if_neg (by omega), atB_lt h0] at hZ
    refine ⟨0, h0, rfl, ?_⟩
    refine cnd_split (fun hb => ?_) (fun hb => ?_)
    · rw [if_pos hb] at hZ
      subst hZ
      refine ⟨by have hmx : maxLen = 9223372036854775807 := rfl; have e : (⟨#[47]⟩ : ByteArray).size = 1 := rfl; omega, ?_⟩
      refine .p rfl p1 ?_
      refine ⟨_, rfl, ?_⟩
      refine ⟨_, rfl, ?_⟩
      refine ⟨_, rfl, ?_⟩
      refine cnd_split (fun _ => ?_) (fun h => by rw [show ((s[0].toNat : Int) == 63) = true from hb] at h; cases h)
      refine ⟨_, rfl, ?_⟩
      refine ⟨_, rfl, ?_⟩
      refine ⟨_, rfl, ?_⟩
      exact ⟨_, rfl, rfl⟩
    · rw [if_neg (by rw [show ((s[0].toNat : Int) == 63) = false from hb]; decide)] at hZ
      subst hZ
      refine .p rfl p2 ?_
      refine ⟨_, rfl, ?_⟩
      refine ⟨_, rfl, ?_⟩
      refine ⟨_, rfl, ?_⟩
      refine cnd_split (fun h => by rw [show ((s[0].toNat : Int) == 63) = false from hb] at h; cases h) (fun _ => ?_)
      refine ⟨_, rfl, ?_⟩
      refine ⟨_, rfl, ?_⟩
      exact ⟨_, rfl, rfl⟩
def cssS : ByteArray := ⟨#[58, 47, 47]⟩
def htpS : ByteArray := ⟨#[104, 116, 116, 112]⟩
def htsS : ByteArray := ⟨#[104, 116, 116, 112, 115]⟩
/-- where a host ends -/
def cutI (r : ByteArray) : Nat := if Lib.indexAny r.data.toList [47, 63] < 0 then r.size else (Lib.indexAny r.data.toList [47, 63]).toNat
theorem cutI_le (r : ByteArray) : cutI r ≤ r.size := by
  have hb := blen r
  unfold cutI
  split
  · exact Nat.le_refl _
  · rcases indexAny_lt [47, 63] r.data.toList with h | h
    · omega
    · omega
def absT (s : ByteArray) : TG × Bool :=
  if (cutA s cssS).2.2 = false ∨ (¬ foldB (cutA s cssS).1 = htpS ∧ ¬ foldB (cutA s cssS).1 = htsS) then (⟨2, foldB (cutA s cssS).1, (0, ⟨#[]⟩, 0), ⟨#[]⟩, ⟨#[]⟩, false⟩, false)
  else if ¬ (hostP ((cutA s cssS).2.1.extract 0 (cutI (cutA s cssS).2.1))).2 = 0 then (⟨2, foldB (cutA s cssS).1, (0, ⟨#[]⟩, 0), ⟨#[]⟩, ⟨#[]⟩, false⟩, false)
  else tailT ⟨2, foldB (cutA s cssS).1, (hostP ((cutA s cssS).2.1.extract 0 (cutI (cutA s cssS).2.1))).1, ⟨#[]⟩, ⟨#[]⟩, false⟩ ((cutA s cssS).2.1.extract (cutI (cutA s cssS).2.1) (cutA s cssS).2.1.size)
set_option maxHeartbeats 8000000 in
theorem absT_p (s : ByteArray) (hs : s.size ≤ 2000000000) : APure Tryz.prog 218 [.s s] (.tup [(absT s).1.av, .b (absT s).2]) [] := by
  have hmx : maxLen = 9223372036854775807 := rfl
  have hc := cutA_p s cssS (by omega)
  have hl := cutA_le s cssS
  have hZ : absT s = if (cutA s cssS).2.2 = false ∨ (¬ foldB (cutA s cssS).1 = htpS ∧ ¬ foldB (cutA s cssS).1 = htsS) then (⟨2, foldB (cutA s cssS).1, (0, ⟨#[]⟩, 0), ⟨#[]⟩, ⟨#[]⟩, false⟩, false)
    else if ¬ (hostP ((cutA s cssS).2.1.extract 0 (cutI (cutA s cssS).2.1))).2 = 0 then (⟨2, foldB (cutA s cssS).1, (0, ⟨#[]⟩, 0), ⟨#[]⟩, ⟨#[]⟩, false⟩, false)
    else tailT ⟨2, foldB (cutA s cssS).1, (hostP ((cutA s cssS).2.1.extract 0 (cutI (cutA s cssS).2.1))).1, ⟨#[]⟩, ⟨#[]⟩, false⟩ ((cutA s cssS).2.1.extract (cutI (cutA s cssS).2.1) (cutA s cssS).2.1.size) := rfl
  generalize absT s = Z at hZ ⊢
  generalize cutA s cssS = q at hc hl hZ
  obtain ⟨a, b, c⟩ := q
  dsimp only at hc hl hZ
  have hcl := cutI_le b
  have hfo := foldO_p a (by omega)
  generalize foldB a = y at hfo hZ
  refine APure.of rfl (ACalls.of_vc T_ok mixed Tryz.func218 rfl Tryz.call218 ?_)
  refine .p rfl hc ?_
  refine .p rfl hfo ?_
  refine ⟨_, rfl, ?_⟩
  cases c with
  | false =>
    rw [if_pos (.inl rfl)] at hZ
    subst hZ
    refine ⟨_, rfl, ?_⟩
    refine ⟨_, rfl, ?_⟩
    exact ⟨_, rfl, rfl⟩
  | true =>
    refine ⟨_, rfl, ?_⟩
    intro t ht
    cases t with
    | false =>
      have e1 : y = htpS := ht.1 rfl
      rw [if_neg (fun h => h.elim (fun h => by cases h) (fun h => h.1 e1))] at hZ
      refine .p rfl (indexAnySl_p b (by omega)) ?_
      refine cnd_split (fun hi => ?_) (fun hi => ?_)
      · have hi := of_decide_eq_true hi
        have ci : cutI b = b.size := if_pos hi
        refine ⟨cutI b, by first | exact congrArg Nat.cast ci.symm | exact ci.symm, Nat.zero_le _, hcl, ?_⟩
        have hh := hostP_p (b.extract 0 (cutI b)) (by rw [ByteArray.size_extract]; omega)
        generalize hostP (b.extract 0 (cutI b)) = hp at hh hZ
        obtain ⟨⟨h1, h2, h3⟩, he⟩ := hp
        refine .p rfl hh ?_
        refine ⟨_, rfl, ?_⟩
        refine cnd_split (fun h4 => ?_) (fun h4 => ?_)
        · rw [if_pos (by simpa using h4)] at hZ
          subst hZ
          refine ⟨_, rfl, ?_⟩
          refine ⟨_, rfl, ?_⟩
          exact ⟨_, rfl, rfl⟩
        · rw [if_neg (by simpa using h4)] at hZ
          subst hZ
          refine ⟨_, rfl, ?_⟩
          refine ⟨_, rfl, ?_⟩
          refine .x (by kernel_rfl) ?_
          refine ⟨_, rfl, ?_⟩
          refine ⟨cutI b, by first | exact congrArg Nat.cast ci.symm | exact ci.symm, hcl, Nat.le_refl _, ?_⟩
          refine .p rfl (tailT_p ⟨2, y, (h1, h2, h3), ⟨#[]⟩, ⟨#[]⟩, false⟩ (b.extract (cutI b) b.size) (by rw [ByteArray.size_extract]; omega)) ?_
          refine ⟨_, rfl, ?_⟩
          exact ⟨_, rfl, rfl⟩
      · have hi := of_decide_eq_false hi
        have ci : ((cutI b : Nat) : Int) = Lib.indexAny b.data.toList [47, 63] := by
          unfold cutI
          rw [if_neg hi]
          omega
        refine ⟨cutI b, by first | exact congrArg Nat.cast ci.symm | exact ci.symm, Nat.zero_le _, hcl, ?_⟩
        have hh := hostP_p (b.extract 0 (cutI b)) (by rw [ByteArray.size_extract]; omega)
        generalize hostP (b.extract 0 (cutI b)) = hp at hh hZ
        obtain ⟨⟨h1, h2, h3⟩, he⟩ := hp
        refine .p rfl hh ?_
        refine ⟨_, rfl, ?_⟩
        refine cnd_split (fun h4 => ?_) (fun h4 => ?_)
        · rw [if_pos (by simpa using h4)] at hZ
          subst hZ
          refine ⟨_, rfl, ?_⟩
          refine ⟨_, rfl, ?_⟩
          exact ⟨_, rfl, rfl⟩
        · rw [if_neg (by simpa using h4)] at hZ
          subst hZ
          refine ⟨_, rfl, ?_⟩
          refine ⟨_, rfl, ?_⟩
          refine .x (by kernel_rfl) ?_
          refine ⟨_, rfl, ?_⟩
          refine ⟨cutI b, by first | exact congrArg Nat.cast ci.symm | exact ci.symm, hcl, Nat.le_refl _, ?_⟩
          refine .p rfl (tailT_p ⟨2, y, (h1, h2, h3), ⟨#[]⟩, ⟨#[]⟩, false⟩ (b.extract (cutI b) b.size) (by rw [ByteArray.size_extract]; omega)) ?_
          refine ⟨_, rfl, ?_⟩
          exact ⟨_, rfl, rfl⟩
    | true =>
      have e1 : ¬ y = htpS := fun e => by have := ht.2 e; cases this
      refine ⟨_, rfl, ?_⟩
      intro t2 ht2
      cases t2 with
      | false =>
        have e2 : y = htsS := ht2.1 rfl
        rw [if_neg (fun h => h.elim (fun h => by cases h) (fun h => h.2 e2))] at hZ
        refine .p rfl (indexAnySl_p b (by omega)) ?_
        refine cnd_split (fun hi => ?_) (fun hi => ?_)
        · have hi := of_decide_eq_true hi
          have ci : cutI b = b.size := if_pos hi
          refine ⟨cutI b, by first | exact congrArg Nat.cast ci.symm | exact ci.symm, Nat.zero_le _, hcl, ?_⟩
          have hh := hostP_p (b.extract 0 (cutI b)) (by rw [ByteArray.size_extract]; omega)
          generalize hostP (b.extract 0 (cutI b)) = hp at hh hZ
          obtain ⟨⟨h1, h2, h3⟩, he⟩ := hp
          refine .p rfl hh ?_
          refine ⟨_, rfl, ?_⟩
          refine cnd_split (fun h4 => ?_) (fun h4 => ?_)
          · rw [if_pos (by simpa using h4)] at hZ
            subst hZ
            refine ⟨_, rfl, ?_⟩
            refine ⟨_, rfl, ?_⟩
            exact ⟨_, rfl, rfl⟩
          · rw [if_neg (by simpa using h4)] at hZ
            subst hZ
            refine ⟨_, rfl, ?_⟩
            refine ⟨_, rfl, ?_⟩
            refine .x (by kernel_rfl) ?_
            refine ⟨_, rfl, ?_⟩
            refine ⟨cutI b, by first | exact congrArg Nat.cast ci.symm | exact ci.symm, hcl, Nat.le_refl _, ?_⟩
            refine .p rfl (tailT_p ⟨2, y, (h1, h2, h3), ⟨#[]⟩, ⟨#[]⟩, false⟩ (b.extract (cutI b) b.size) (by rw [ByteArray.size_extract]; omega)) ?_
            refine ⟨_, rfl, ?_⟩
            exact ⟨_, rfl, rfl⟩
        · have hi := of_decide_eq_false hi
          have ci : ((cutI b : Nat) : Int) = Lib.indexAny b.data.toList [47, 63] := by
            unfold cutI
            rw [if_neg hi]
            omega
          refine ⟨cutI b, by first | exact congrArg Nat.cast ci.symm | exact ci.symm, Nat.zero_le _, hcl, ?_⟩
          have hh := hostP_p (b.extract 0 (cutI b)) (by rw [ByteArray.size_extract]; omega)
          generalize hostP (b.extract 0 (cutI b)) = hp at hh hZ
          obtain ⟨⟨h1, h2, h3⟩, he⟩ := hp
          refine .p rfl hh ?_
          refine ⟨_, rfl, ?_⟩
          refine cnd_split (fun h4 => ?_) (fun h4 => ?_)
          · rw [if_pos (by simpa using h4)] at hZ
            subst hZ
            refine ⟨_, rfl, ?_⟩
            refine ⟨_, rfl, ?_⟩
            exact ⟨_, rfl, rfl⟩
          · rw [if_neg (by simpa using h4)] at hZ
            subst hZ
            refine ⟨_, rfl, ?_⟩
            refine ⟨_, rfl, ?_⟩
            refine .x (by kernel_rfl) ?_
            refine ⟨_, rfl, ?_⟩
            refine ⟨cutI b, by first | exact congrArg Nat.cast ci.symm | exact ci.symm, hcl, Nat.le_refl _, ?_⟩
            refine .p rfl (tailT_p ⟨2, y, (h1, h2, h3), ⟨#[]⟩, ⟨#[]⟩, false⟩ (b.extract (cutI b) b.size) (by rw [ByteArray.size_extract]; omega)) ?_
            refine ⟨_, rfl, ?_⟩
            exact ⟨_, rfl, rfl⟩
      | true =>
        have e2 : ¬ y = htsS := fun e => by have := ht2.2 e; cases this
        rw [if_pos (.inr ⟨e1, e2⟩)] at hZ
        subst hZ
        refine ⟨_, rfl, ?_⟩
        refine ⟨_, rfl, ?_⟩
        exact ⟨_, rfl, rfl⟩
end Go.Proofs.YthnmbfiandpedaaGreatDoor
/- Targets of requests: the program's Parse, walked. No statement of its own. -/
set_option linter.unusedSimpArgs false
set_option linter.unusedVariables false
set_option maxRecDepth 100000
namespace Go.Proofs.YthnmbfiandpedaaGreatDoor
open Go.RowKit
def astS : ByteArray := ⟨#[42]⟩
def optS : ByteArray := ⟨#[79, 80, 84, 73, 79, 78, 83]⟩
def conS : ByteArray := ⟨#[67, 79, 78, 78, 69, 67, 84]⟩
def ofT (m s : ByteArray) : TG × Bool :=
  if s = astS then (⟨4, ⟨#[]⟩, (0, ⟨#[]⟩, 0), ⟨#[]⟩, ⟨#[]⟩, false⟩, decide (m = optS))
  else if Lib.hasPrefix s.data.toList slaS.data.toList = false then absT s
  else tailT ⟨1, ⟨#[]⟩, (0, ⟨#[]⟩, 0), ⟨#[]⟩, ⟨#[]⟩, false⟩ s
theorem ofT_p (m s : ByteArray) (hs : s.size ≤ 2000000000) : APure Tryz.prog 162 [.s m, .s s] (.tup [(ofT m s).1.av, .b (ofT m s).2]) [] := by
  have ha := absT_p s hs
  have ht := tailT_p ⟨1, ⟨#[]⟩, (0, ⟨#[]⟩, 0), ⟨#[]⟩, ⟨#[]⟩, false⟩ s (by omega)
  have hZ : ofT m s = if s = astS then (⟨4, ⟨#[]⟩, (0, ⟨#[]⟩, 0), ⟨#[]⟩, ⟨#[]⟩, false⟩, decide (m = optS))
    else if Lib.hasPrefix s.data.toList slaS.data.toList = false then absT s else tailT ⟨1, ⟨#[]⟩, (0, ⟨#[]⟩, 0), ⟨#[]⟩, ⟨#[]⟩, false⟩ s := rfl
  generalize ofT m s = Z at hZ ⊢
  generalize absT s = A at ha hZ
  generalize tailT ⟨1, ⟨#[]⟩, (0, ⟨#[]⟩, 0), ⟨#[]⟩, ⟨#[]⟩, false⟩ s = B at ht hZ
  obtain ⟨⟨k, sc, ⟨h1, h2, h3⟩, pa, q, hq⟩, ok⟩ := A
  obtain ⟨⟨k', sc', ⟨h1', h2', h3'⟩, pa', q', hq'⟩, ok'⟩ := B
  have hp := hsPrefix_p s slaS
  generalize Lib.hasPrefix s.data.toList slaS.data.toList = pb at hp hZ
  refine APure.of rfl (ACalls.of_vc T_ok mixed Tryz.func162 rfl Tryz.call162 ?_)
  intro t hte
  cases t with
  | true =>
    rw [if_pos (show s = astS from hte.1 rfl)] at hZ
    subst hZ
    intro t2 ht2
    have e : t2 = decide (m = optS) := by rw [Bool.eq_iff_iff, decide_eq_true_iff]; exact ht2
    subst e
    refine ⟨_, rfl, ?_⟩
    exact ⟨_, rfl, rfl⟩
  | false =>
    rw [if_neg (fun h : s = astS => by have := hte.2 h; cases this)] at hZ
    refine .p rfl hp ?_
    cases pb with
    | false =>
      rw [if_pos rfl] at hZ
      subst hZ
      refine .p rfl ha ?_
      refine ⟨_, rfl, ?_⟩
      exact ⟨_, rfl, rfl⟩
    | true =>
      rw [if_neg (by decide)] at hZ
      subst hZ
      refine .p rfl ht ?_
      refine ⟨_, rfl, ?_⟩
      refine ⟨_, rfl, ?_⟩
      refine ⟨_, rfl, ?_⟩
      exact ⟨_, rfl, rfl⟩
/-- a request's target, and whether it is one -/
def tgtB (m s : ByteArray) : TG × Int :=
  if m = conS then (if (hostP s).2 ≠ 0 ∨ (hostP s).1.2.2 < 0 then (.zero, 20) else (⟨3, ⟨#[]⟩, (hostP s).1, ⟨#[]⟩, ⟨#[]⟩, false⟩, 0))
  else if (ofT m s).2 = false then (.zero, 20) else ((ofT m s).1, 0)
theorem tgtB_p (m s : ByteArray) (hs : s.size ≤ 2000000000) : APure Tryz.prog 112 [.s m, .s s] (.tup [(tgtB m s).1.av, .i (tgtB m s).2]) [] := by
  have ho := ofT_p m s hs
  have hh := hostP_p s (by omega)
  have hZ : tgtB m s = if m = conS then (if (hostP s).2 ≠ 0 ∨ (hostP s).1.2.2 < 0 then (.zero, 20) else (⟨3, ⟨#[]⟩, (hostP s).1, ⟨#[]⟩, ⟨#[]⟩, false⟩, 0))
    else if (ofT m s).2 = false then (.zero, 20) else ((ofT m s).1, 0) := rfl
  generalize tgtB m s = Z at hZ ⊢
  generalize ofT m s = A at ho hZ
  generalize hostP s = H at hh hZ
  obtain ⟨⟨k, sc, ⟨h1, h2, h3⟩, pa, q, hq⟩, ok⟩ := A
  obtain ⟨⟨g1, g2, g3⟩, ge⟩ := H
  dsimp only at hZ
  refine APure.of rfl (ACalls.of_vc T_ok mixed Tryz.func112 rfl Tryz.call112 ?_)
  intro t hte
  cases t with
  | true =>
    rw [if_pos (show m = conS from hte.1 rfl)] at hZ
    refine .p rfl hh ?_
    refine ⟨_, rfl, ?_⟩
    refine cnd_split (fun h4 => ?_) (fun h4 => ?_)
    · rw [if_pos (.inl (by simpa using h4))] at hZ
      subst hZ
      refine ⟨_, rfl, ?_⟩
      exact ⟨_, rfl, rfl⟩
    · refine ⟨_, rfl, ?_⟩
      refine cnd_split (fun h5 => ?_) (fun h5 => ?_)
      · rw [if_pos (.inr (of_decide_eq_true h5))] at hZ
        subst hZ
        refine ⟨_, rfl, ?_⟩
        exact ⟨_, rfl, rfl⟩
      · rw [if_neg (fun h => h.elim (fun h => h (by simpa using h4)) (of_decide_eq_false h5))] at hZ
        subst hZ
        refine ⟨_, rfl, ?_⟩
        refine ⟨_, rfl, ?_⟩
        exact ⟨_, rfl, rfl⟩
  | false =>
    rw [if_neg (fun h : m = conS => by have := hte.2 h; cases this)] at hZ
    refine .p rfl ho ?_
    refine ⟨_, rfl, ?_⟩
    cases ok with
    | false =>
      rw [if_pos rfl] at hZ
      subst hZ
      refine ⟨_, rfl, ?_⟩
      exact ⟨_, rfl, rfl⟩
    | true =>
      rw [if_neg (by decide)] at hZ
      subst hZ
      refine ⟨_, rfl, ?_⟩
      refine ⟨_, rfl, ?_⟩
      exact ⟨_, rfl, rfl⟩
end Go.Proofs.YthnmbfiandpedaaGreatDoor
/- First lines of heads in plain words: what is read, and that it is written as it was. No statement of its own. -/
set_option linter.unusedSimpArgs false
set_option linter.unusedVariables false
set_option maxRecDepth 100000
namespace Go.Proofs.YthnmbfiandpedaaGreatDoor
open Go.RowKit

def httpS : ByteArray := ⟨#[72, 84, 84, 80, 47]⟩
def verS : ByteArray := ⟨#[72, 84, 84, 80, 47, 49, 46]⟩
def spS : ByteArray := ⟨#[32]⟩
/-- a digit at a place -/
def digA (s : ByteArray) (k : Nat) : Int × Bool × Nat := match s.data.toList[k]? with
  | some b => if digI (b.toNat : Int) = true then ((b.toNat : Int) - 48, true, k + 1) else (0, false, k)
  | none => (0, false, k)
def begA (s : ByteArray) (k : Nat) (w : ByteArray) : Bool := Lib.hasPrefix (s.data.toList.drop k) w.data.toList
/-- the place behind a byte, where it stands -/
def nxB (s : ByteArray) (k : Nat) (b : Int) : Nat := if atB s k b = true then k + 1 else k
/-- a version at a place -/
def verA (s : ByteArray) (k : Nat) : Int × Int × Bool × Nat := match begA s k httpS with
  | false => (0, 0, false, k)
  | true => ((digA s (k + 5)).1, (digA s (nxB s (digA s (k + 5)).2.2 46)).1, (digA s (k + 5)).2.1 && (atB s (digA s (k + 5)).2.2 46 && (digA s (nxB s (digA s (k + 5)).2.2 46)).2.1), (digA s (nxB s (digA s (k + 5)).2.2 46)).2.2)
def mnrA (s : ByteArray) (k : Nat) : Int × Bool × Nat := ((verA s k).2.1, (verA s k).2.2.1 && (((verA s k).1 == 1) && decide ((verA s k).2.1 ≤ 1)), (verA s k).2.2.2)
def othA (s : ByteArray) : Bool := (verA s 0).2.2.1 && (decide (s.size ≤ (verA s 0).2.2.2) && (!((verA s 0).1 == 1) || decide (1 < (verA s 0).2.1)))
def nblI (n : Int) : Bool := !(n == 32)
/-- what a head is but for its fields -/
structure HX where
  kind : Int
  method : ByteArray
  target : ByteArray
  code : Int
  reason : ByteArray
  minor : Int
def HX.zero : HX := ⟨0, ⟨#[]⟩, ⟨#[]⟩, 0, ⟨#[]⟩, 0⟩
def hxA (x : HX) (fs : AV) : AV := .agg [.i x.kind, .s x.method, .s x.target, .i x.code, .s x.reason, .i x.minor, fs]
def reqK1 (s : ByteArray) : Nat := nxB s (tw tokI s 0) 32
def reqQ (s : ByteArray) : Nat := reqK1 s + tw nblI s (reqK1 s)
def reqK2 (s : ByteArray) : Nat := nxB s (reqQ s) 32
def reqOk (s : ByteArray) : Bool := !decide (tw tokI s 0 = 0) && (atB s (tw tokI s 0) 32 && (atB s (reqQ s) 32 && ((mnrA s (reqK2 s)).2.1 && (decide (s.size ≤ (mnrA s (reqK2 s)).2.2) && decide ((tgtB (s.extract 0 (tw tokI s 0)) (s.extract (reqK1 s) (reqQ s))).2 = 0)))))
/-- a request's first line -/
def reqA (s : ByteArray) : HX × Int := match othA (s.extract (lastN s 32) s.size) with
  | true => (.zero, 26)
  | false => match reqOk s with
    | true => (⟨1, s.extract 0 (tw tokI s 0), s.extract (reqK1 s) (reqQ s), 0, ⟨#[]⟩, (mnrA s (reqK2 s)).1⟩, 0)
    | false => (.zero, 20)
def stsK1 (s : ByteArray) : Nat := nxB s (mnrA s 0).2.2 32
def stsQ (s : ByteArray) : Nat := stsK1 s + tw digI s (stsK1 s)
def stsK2 (s : ByteArray) : Nat := nxB s (stsQ s) 32
def stsC (s : ByteArray) : Int × Int := readG 10 (s.extract (stsK1 s) (stsQ s)) 599
def stsOk (s : ByteArray) : Bool := (mnrA s 0).2.1 && (atB s (mnrA s 0).2.2 32 && (atB s (stsQ s) 32 && (decide (stsQ s - stsK1 s = 3) && (decide ((stsC s).2 = 0) && (decide (100 ≤ (stsC s).1) && allI valI (s.extract (stsK2 s) s.size))))))
/-- a response's first line -/
def stsA (s : ByteArray) : HX × Int := match othA ⟨(Lib.cut s.data.toList spS.data.toList).1.toArray⟩ with
  | true => (.zero, 26)
  | false => match stsOk s with
    | true => (⟨2, ⟨#[]⟩, ⟨#[]⟩, (stsC s).1, s.extract (stsK2 s) s.size, (mnrA s 0).1⟩, 0)
    | false => (.zero, 20)
/-- a first line -/
def startA (kind : Int) (s : ByteArray) : HX × Int :=
  if kind ≠ 1 ∧ kind ≠ 2 then (.zero, 1)
  else if crlfB s = true then (.zero, 24)
  else if kind = 1 then reqA s else stsA s
/-- what is written of a head first -/
def lineA (x : HX) : ByteArray := if x.kind = 2 then verS ++ nuT x.minor ++ spS ++ nuT x.code ++ spS ++ x.reason else x.method ++ spS ++ x.target ++ spS ++ (verS ++ nuT x.minor)
def sameA (x y : HX) : Bool := decide (x.method = y.method) && (decide (x.target = y.target) && ((x.minor == y.minor) && ((x.code == y.code) && decide (x.reason = y.reason))))
def textA (x : HX) : ByteArray × Int :=
  if (startA x.kind (lineA x)).2 = 1 then (⟨#[]⟩, 1)
  else if (startA x.kind (lineA x)).2 ≠ 0 ∨ sameA (startA x.kind (lineA x)).1 x = false then (⟨#[]⟩, 20)
  else (lineA x, 0)

section
variable {s : ByteArray} {k : Nat}
theorem atB_drop {b : UInt8} (h : atB s k (b.toNat : Int) = true) : s.data.toList.drop k = b :: s.data.toList.drop (k + 1) := by
  unfold atB at h
  cases e : s.data.toList[k]? with
  | none => rw [e] at h; cases h
  | some x =>
    rw [e] at h
    have hx : x = b := UInt8.toNat_inj.1 (by simp only [Option.any_some, beq_iff_eq] at h; omega)
    obtain ⟨h1, h2⟩ := List.getElem?_eq_some_iff.1 e
    rw [← hx, ← h2]
    exact List.drop_eq_getElem_cons h1
theorem begA_drop {w : ByteArray} (h : begA s k w = true) : s.data.toList.drop k = w.data.toList ++ s.data.toList.drop (k + w.size) := by
  unfold begA Lib.hasPrefix at h
  obtain ⟨r, hr⟩ := List.isPrefixOf_iff_prefix.1 h
  have h2 : (s.data.toList.drop k).drop w.size = r := by
    rw [← hr, ← blen w, List.drop_left]
  rw [List.drop_drop] at h2
  rw [← hr, h2]
theorem digA_drop {v : Int} {j : Nat} (h : digA s k = (v, true, j)) : ∃ b : UInt8, s.data.toList.drop k = b :: s.data.toList.drop (k + 1) ∧ j = k + 1 ∧ v = (b.toNat : Int) - 48 ∧ digI (b.toNat : Int) = true := by
  unfold digA at h
  split at h
  · rename_i b hb
    split at h
    · rename_i hd
      cases h
      obtain ⟨h1, h2⟩ := List.getElem?_eq_some_iff.1 hb
      exact ⟨b, by rw [← h2]; exact List.drop_eq_getElem_cons h1, rfl, rfl, hd⟩
    · cases h
  · cases h
theorem nuT0 : nuT 0 = ⟨#[48]⟩ := by decide +kernel
theorem nuT1 : nuT 1 = ⟨#[49]⟩ := by decide +kernel
/-- a version that is taken -/
theorem mnrA_drop (h : (mnrA s k).2.1 = true) : ∃ n : Nat, n ≤ 1 ∧ (mnrA s k).1 = n ∧ s.data.toList.drop k = (verS ++ nuT n).data.toList ++ s.data.toList.drop (mnrA s k).2.2 := by
  unfold mnrA at h ⊢
  dsimp only at h ⊢
  simp only [Bool.and_eq_true, beq_iff_eq, decide_eq_true_eq] at h
  obtain ⟨h1, h2, h3⟩ := h
  unfold verA at h1 h2 h3 ⊢
  cases hb : begA s k httpS with
  | false => rw [hb] at h1; cases h1
  | true =>
    rw [hb] at h1 h2 h3
    dsimp only at h1 h2 h3 ⊢
    simp only [Bool.and_eq_true] at h1
    obtain ⟨q1, q2, q3⟩ := h1
    have e0 := begA_drop hb
    have es : httpS.size = 5 := rfl
    rw [es] at e0
    obtain ⟨⟨v, o, j⟩, ha⟩ : ∃ D, digA s (k + 5) = D := ⟨_, rfl⟩
    · rw [ha] at q1 q2 q3 h2 h3 ⊢
      dsimp only at q1 q2 q3 h2 h3 ⊢
      subst q1
      obtain ⟨b, e1, rfl, rfl, hd⟩ := digA_drop ha
      have hn : nxB s (k + 5 + 1) 46 = k + 5 + 1 + 1 := if_pos q2
      rw [hn] at q3 h3 ⊢
      have e2 := atB_drop (b := 46) q2
      obtain ⟨⟨v2, o2, j2⟩, hc⟩ : ∃ D, digA s (k + 5 + 1 + 1) = D := ⟨_, rfl⟩
      · rw [hc] at q3 h3 ⊢
        dsimp only at q3 h3 ⊢
        subst q3
        obtain ⟨b2, e3, rfl, rfl, hd2⟩ := digA_drop hc
        have hb1 : b = 49 := UInt8.toNat_inj.1 (by show _ = 49; omega)
        unfold digI at hd2
        simp only [Bool.and_eq_true, decide_eq_true_eq] at hd2
        have hs : s.data.toList.drop k = [72, 84, 84, 80, 47, 49, 46, b2] ++ s.data.toList.drop (k + 5 + 1 + 1 + 1) := by
          rw [e0, e1, e2, e3, hb1]
          rfl
        rcases (by omega : (b2.toNat : Int) = 48 ∨ (b2.toNat : Int) = 49) with hv | hv
        · have hb2 : b2 = 48 := UInt8.toNat_inj.1 (by show _ = 48; omega)
          refine ⟨0, by omega, by omega, ?_⟩
          rw [hs, hb2]
          have : (verS ++ nuT (0 : Nat)).data.toList = [72, 84, 84, 80, 47, 49, 46, 48] := by
            have := nuT0
            show (verS ++ nuT 0).data.toList = _
            rw [this]; rfl
          rw [this]
        · have hb2 : b2 = 49 := UInt8.toNat_inj.1 (by show _ = 49; omega)
          refine ⟨1, by omega, by omega, ?_⟩
          rw [hs, hb2]
          have : (verS ++ nuT (1 : Nat)).data.toList = [72, 84, 84, 80, 47, 49, 46, 49] := by
            have := nuT1
            show (verS ++ nuT 1).data.toList = _
            rw [this]; rfl
          rw [this]
end
/-- a request's line is written as it was -/
theorem reqA_line {s : ByteArray} {x : HX} (h : reqA s = (x, 0)) : x.kind = 1 ∧ lineA x = s := by
  unfold reqA at h
  split at h
  · cases h
  split at h
  · rename_i hok
    cases h
    refine ⟨rfl, ?_⟩
    unfold reqOk at hok
    simp only [Bool.and_eq_true, decide_eq_true_eq] at hok
    obtain ⟨_, a1, a2, a3, a4, _⟩ := hok
    have k1 : reqK1 s = tw tokI s 0 + 1 := if_pos a1
    have k2 : reqK2 s = reqQ s + 1 := if_pos a2
    have d1 := atB_drop (b := 32) a1
    have d2 := atB_drop (b := 32) a2
    obtain ⟨n, hn, hn2, d3⟩ := mnrA_drop a3
    rw [List.drop_of_length_le (i := (mnrA s (reqK2 s)).2.2) (by rw [blen]; exact a4), List.append_nil, k2] at d3
    have hq : reqK1 s ≤ reqQ s := Nat.le_add_right _ _
    apply inL
    unfold lineA
    dsimp only
    rw [if_neg (by decide), hn2]
    simp only [app_l] at d3
    simp only [app_l, extB]
    rw [← d3]
    simp only [List.drop_zero]
    have e1 : List.drop (reqK1 s) (s.data.toList.take (reqQ s)) ++ s.data.toList.drop (reqQ s) = s.data.toList.drop (reqK1 s) := by
      rw [List.drop_take]
      conv => rhs; rw [← List.take_append_drop (reqQ s - reqK1 s) (s.data.toList.drop (reqK1 s)), List.drop_drop]
      rw [show reqK1 s + (reqQ s - reqK1 s) = reqQ s by omega]
    have e2 : spS.data.toList = [32] := rfl
    rw [e2]
    calc _ = List.take (tw tokI s 0) s.data.toList ++ (32 :: (List.drop (reqK1 s) (s.data.toList.take (reqQ s)) ++ (32 :: s.data.toList.drop (reqQ s + 1)))) := by simp
      _ = s.data.toList := by rw [← d2, e1, k1, ← d1, List.take_append_drop]
  · cases h
end Go.Proofs.YthnmbfiandpedaaGreatDoor
/- First lines of heads: the program's, walked. No statement of its own. -/
set_option linter.unusedSimpArgs false
set_option linter.unusedVariables false
set_option maxRecDepth 100000
namespace Go.Proofs.YthnmbfiandpedaaGreatDoor
open Go.RowKit
section
variable {st : St} {p k n : Nat} {s : ByteArray} {R : AV → St → Prop}
theorem begA_le {w : ByteArray} (h : begA s k w = true) (hk : k ≤ s.size) : k + w.size ≤ s.size := by
  have h1 := blen s
  have h2 := blen w
  unfold begA Lib.hasPrefix at h
  have h3 := (List.isPrefixOf_iff_prefix.1 h).length_le
  rw [List.length_drop] at h3
  omega
theorem nxB_le (hk : k ≤ s.size) (b : Int) : nxB s k b ≤ s.size := by
  unfold nxB
  split
  · rename_i h
    have := atB_iff h
    omega
  · exact hk
theorem textk_m (h : Sc st p s k) (hn : n ≤ st.tk.length) (w : ByteArray) (h1 : begA s k w = false → ∀ st', Mv n (· = p) st st' → Sc st' p s k → R (.b false) st')
    (h2 : begA s k w = true → ∀ st', Mv n (· = p) st st' → Sc st' p s (k + w.size) → R (.b true) st') : ACalls Tryz.prog 215 [.ptr p 0, .s w] st R := by
  have hm := h.max
  have hle := h.le
  unfold maxLen at hm
  refine ACalls.of_vc T_ok mixed Tryz.func215 rfl Tryz.call215 ?_
  refine .s (rest_a h ?_)
  have hb : Lib.hasPrefix (s.extract k s.size).data.toList w.data.toList = begA s k w := by
    unfold begA
    rw [extB, ← blen, List.take_length]
  generalize hx : s.extract k s.size = x at hb
  refine .p rfl (hsPrefix_p _ _) ?_
  rw [hb]
  cases hbb : begA s k w with
  | false => exact h1 hbb _ (Mv.refl hn) h
  | true =>
    have hl := begA_le hbb hle
    refine ⟨_, h.at', ?_⟩
    intro c hc
    rw [IntWalk.i64_in _ (by omega)] at hc
    obtain rfl : c = ((k + w.size : Nat) : Int) := by omega
    refine ⟨_, h.at', ?_⟩
    exact h2 hbb _ ((Mv.refl (C := (· = p)) hn).sc (p := p) (fun _ => rfl) s _) (h.sc hl)
theorem digA_le (hk : k ≤ s.size) : (digA s k).2.2 ≤ s.size := by
  unfold digA
  split
  · rename_i b hb
    have := (List.getElem?_eq_some_iff.1 hb).1
    rw [blen] at this
    split
    · dsimp only; omega
    · exact hk
  · exact hk
theorem dig_m (h : Sc st p s k) (hn : n ≤ st.tk.length) (hR : ∀ st', Mv n (· = p) st st' → Sc st' p s (digA s k).2.2 → R (.tup [.i (digA s k).1, .b (digA s k).2.1]) st') : ACalls Tryz.prog 216 [.agg [.ptr p 0]] st R := by
  have hle := h.le
  have hb : (st.heap ++ [[AV.ptr p 0]])[st.heap.length]? = some [.ptr p 0] := by simp
  have m0 : Mv n (· = p) st ⟨st.heap ++ [[.ptr p 0]], st.tk⟩ := (Mv.refl hn).alloc _
  have h' : Sc ⟨st.heap ++ [[.ptr p 0]], st.tk⟩ p s k := ⟨ap h.at', h.le, h.max⟩
  refine ACalls.of_vc T_ok mixed Tryz.func216 rfl Tryz.call216 ?_
  refine ⟨h.lt, ?_⟩
  refine ⟨_, hb, ?_⟩
  refine .s (peek_a h' (fun hk => ?_) (fun hk => ?_))
  · have hn2 := s[k].toNat_lt
    have hat : s.data.toList[k]? = some s[k] := Lib.data_getElem? s k hk
    refine .p rfl (isDigit_p _) ?_
    refine cnd_split (fun hd => ?_) (fun hd => ?_)
    · have hd : digI (s[k].toNat : Int) = false := by simpa using hd
      have e : digA s k = (0, false, k) := by
        unfold digA
        rw [hat]
        dsimp only
        rw [if_neg (by rw [hd]; decide)]
      rw [e] at hR
      exact hR _ m0 h'
    · have hd : digI (s[k].toNat : Int) = true := by simpa using hd
      have e : digA s k = ((s[k].toNat : Int) - 48, true, k + 1) := by
        unfold digA
        rw [hat]
        dsimp only
        rw [if_pos hd]
      rw [e] at hR
      refine ⟨_, hb, ?_⟩
      have hat2 : atB s k (s[k].toNat : Int) = true := by rw [atB_lt hk]; simp
      refine .s (byte_a h' (s[k].toNat : Int) ?_)
      rw [hat2, if_pos rfl]
      have hdd : 48 ≤ (s[k].toNat : Int) ∧ (s[k].toNat : Int) ≤ 57 := by
        unfold digI at hd
        simpa using hd
      intro c hc
      have hc2 : c = (s[k].toNat : Int) - 48 := by rw [hc]; exact IntWalk.u8_in _ (by omega)
      subst hc2
      intro c hc
      have hc3 : c = (s[k].toNat : Int) - 48 := by rw [hc]; exact IntWalk.i64_in _ (by omega)
      subst hc3
      exact hR _ (m0.sc (fun _ => rfl) s _) (h'.sc (by omega))
  · have e : digA s k = (0, false, k) := by
      unfold digA
      rw [List.getElem?_eq_none (by rw [blen]; exact hk)]
    rw [e] at hR
    exact hR _ m0 h'
theorem verA_le (hk : k ≤ s.size) : (verA s k).2.2.2 ≤ s.size := by
  unfold verA
  split
  · exact hk
  · rename_i h
    have := begA_le h hk
    have e : httpS.size = 5 := rfl
    exact digA_le (nxB_le (digA_le (by omega)) _)
theorem byteN_m (h : Sc st p s k) (hn : n ≤ st.tk.length) (b : Int) (hR : ∀ st', Mv n (· = p) st st' → Sc st' p s (nxB s k b) → R (.b (atB s k b)) st') : ACalls Tryz.prog 85 [.ptr p 0, .int .u8 b] st R := by
  refine byte_a h b ?_
  exact hR _ ((Mv.refl (C := (· = p)) hn).sc (p := p) (fun _ => rfl) s _) (h.sc (nxB_le h.le b))
theorem ver_m (h : Sc st p s k) (hn : n ≤ st.tk.length) (hR : ∀ st', Mv n (· = p) st st' → Sc st' p s (verA s k).2.2.2 → R (.tup [.i (verA s k).1, .i (verA s k).2.1, .b (verA s k).2.2.1]) st') : ACalls Tryz.prog 159 [.agg [.ptr p 0]] st R := by
  have hle := h.le
  have hlt := h.lt
  have hb : (st.heap ++ [[AV.ptr p 0]])[st.heap.length]? = some [.ptr p 0] := by simp
  have m0 : Mv n (· = p) st ⟨st.heap ++ [[.ptr p 0]], st.tk⟩ := (Mv.refl hn).alloc _
  have h' : Sc ⟨st.heap ++ [[.ptr p 0]], st.tk⟩ p s k := ⟨ap h.at', h.le, h.max⟩
  have e5 : httpS.size = 5 := rfl
  have keep : ∀ {S S' : St}, S.heap[st.heap.length]? = some [.ptr p 0] → Mv n (· = p) S S' → S'.heap[st.heap.length]? = some [.ptr p 0] := fun {S S'} h1 m => m.at' h1 (by omega)
  refine ACalls.of_vc T_ok mixed Tryz.func159 rfl Tryz.call159 ?_
  refine ⟨h.lt, ?_⟩
  refine ⟨_, hb, ?_⟩
  refine .s (textk_m (n := n) h' hn httpS (fun hbb S1 m1 hs1 => ?_) (fun hbb S1 m1 hs1 => ?_))
  · have e : verA s k = (0, 0, false, k) := by unfold verA; rw [hbb]
    rw [e] at hR
    exact hR _ (m0.trans m1 (fun _ _ h => h)) hs1
  · have hb1 := keep hb m1
    have t1 := m0.trans m1 (fun _ _ h => h)
    rw [e5] at hs1
    refine ⟨_, hb1, ?_⟩
    refine .s (dig_m hs1 m1.tl (fun S2 m2 hs2 => ?_))
    have hb2 := keep hb1 m2
    have t2 := t1.trans m2 (fun _ _ h => h)
    refine ⟨_, hb2, ?_⟩
    refine .s (byteN_m hs2 m2.tl 46 (fun S3 m3 hs3 => ?_))
    have hb3 := keep hb2 m3
    have t3 := t2.trans m3 (fun _ _ h => h)
    refine ⟨_, hb3, ?_⟩
    refine .s (dig_m hs3 m3.tl (fun S4 m4 hs4 => ?_))
    have t4 := t3.trans m4 (fun _ _ h => h)
    have e : verA s k = ((digA s (k + 5)).1, (digA s (nxB s (digA s (k + 5)).2.2 46)).1, (digA s (k + 5)).2.1 && (atB s (digA s (k + 5)).2.2 46 && (digA s (nxB s (digA s (k + 5)).2.2 46)).2.1), (digA s (nxB s (digA s (k + 5)).2.2 46)).2.2) := by unfold verA; rw [hbb]
    rw [e] at hR
    have fin := hR _ t4 hs4
    clear hR e
    generalize digA s (nxB s (digA s (k + 5)).2.2 46) = D2 at *
    generalize digA s (k + 5) = D1 at *
    obtain ⟨v1, o1, j1⟩ := D1
    obtain ⟨v2, o2, j2⟩ := D2
    dsimp only at fin ⊢
    cases o1 with
    | false => exact fin
    | true =>
      cases hx : atB s j1 46 with
      | false => rw [hx] at fin; exact fin
      | true =>
        rw [hx] at fin
        cases o2 with
        | false => exact fin
        | true => exact fin
end
end Go.Proofs.YthnmbfiandpedaaGreatDoor
