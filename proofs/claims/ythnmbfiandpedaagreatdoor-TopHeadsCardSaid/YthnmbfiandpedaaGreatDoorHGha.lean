/- Heads in plain words: what is taken of bytes, and that what is printed is taken again. No statement of its own. -/
import Derived.Test.YthnmbfiandpedaaGreatDoorHGpf
import Derived.Test.YthnmbfiandpedaaGreatDoorHGsr
import Derived.Test.YthnmbfiandpedaaGreatDoorHGnu
import Derived.Test.YthnmbfiandpedaaGreatDoorHGhs
import Derived.Test.YthnmbfiandpedaaGreatDoorHGhb
set_option linter.unusedSimpArgs false
set_option linter.unusedVariables false
set_option maxRecDepth 100000
namespace Go.Proofs.YthnmbfiandpedaaGreatDoor
open Go.RowKit

def crlfL : List UInt8 := [13, 10]
def bOf (l : List UInt8) : ByteArray := ⟨l.toArray⟩
/-- without line ends -/
def cleanL (l : List UInt8) : Prop := ∀ b ∈ l, b ≠ 13 ∧ b ≠ 10
/-- lines, each with its end -/
def linesT (ls : List (List UInt8)) : List UInt8 := (ls.map fun l => l ++ crlfL).flatten
theorem linesT_cons (l : List UInt8) (ls : List (List UInt8)) : linesT (l :: ls) = l ++ 13 :: 10 :: linesT ls := by
  simp [linesT, crlfL]
theorem linesT_app (a b : List (List UInt8)) : linesT (a ++ b) = linesT a ++ linesT b := by
  simp [linesT]

section
variable {X : Type} (stX : ByteArray → X) (stE : ByteArray → Int) (whE : X → List Fld → Int)
/-- what was taken of a head: its first line, its fields; the line at hand; how many bytes -/
structure MS (X : Type) where
  hd : Option (X × List Fld)
  cur : List UInt8
  n : Nat
inductive MR (X : Type) where
  | go (m : MS X)
  | bad (e : Int)
  | whole (x : X) (fs : List Fld)
/-- a line that ended -/
def mline (hd : Option (X × List Fld)) (l : List UInt8) (n : Nat) : MR X :=
  match hd with
  | none => if stE (bOf l) = 0 then .go ⟨some (stX (bOf l), []), [], n⟩ else .bad (stE (bOf l))
  | some (x, fs) => if l = [] then (if whE x fs = 0 then .whole x fs else .bad (whE x fs))
    else if (parseF (bOf l)).2 = 0 then .go ⟨some (x, fs ++ [(parseF (bOf l)).1]), [], n⟩ else .bad (parseF (bOf l)).2
def mstep (lim : Nat) (m : MS X) (b : UInt8) : MR X :=
  if lim ≤ m.n then .bad 3
  else if decide (b = 10) ≠ decide (m.cur.getLast? = some 13) then .bad 24
  else if b ≠ 10 then .go ⟨m.hd, m.cur ++ [b], m.n + 1⟩
  else mline stX stE whE m.hd m.cur.dropLast (m.n + 1)
def mrun (lim : Nat) : MS X → List UInt8 → Nat × MR X
  | m, [] => (0, .go m)
  | m, b :: r => match mstep stX stE whE lim m b with
    | .go m' => ((mrun lim m' r).1 + 1, (mrun lim m' r).2)
    | q => (1, q)

theorem mrun_cons {lim : Nat} (m : MS X) (b : UInt8) (r : List UInt8) : mrun stX stE whE lim m (b :: r) = match mstep stX stE whE lim m b with
    | .go m' => ((mrun stX stE whE lim m' r).1 + 1, (mrun stX stE whE lim m' r).2)
    | q => (1, q) := by
  conv => lhs; unfold mrun

/-- the line at hand: no end of a line in it, but for a CR behind -/
def curOk (l : List UInt8) : Prop := cleanL l ∨ ∃ l', l = l' ++ [13] ∧ cleanL l'
/-- lines of fields -/
def fldsOk (ls : List (List UInt8)) (fs : List Fld) : Prop := fs = ls.map (fun l => (parseF (bOf l)).1) ∧ ∀ l ∈ ls, l ≠ [] ∧ cleanL l ∧ (parseF (bOf l)).2 = 0
/-- what the bytes were -/
def MInv (m : MS X) (buf : List UInt8) : Prop := m.n = buf.length ∧ curOk m.cur ∧ match m.hd with
  | none => buf = m.cur
  | some (x, fs) => ∃ l0 ls, buf = l0 ++ 13 :: 10 :: linesT ls ++ m.cur ∧ cleanL l0 ∧ stE (bOf l0) = 0 ∧ x = stX (bOf l0) ∧ fldsOk ls fs
/-- a head's text -/
def HdT (l0 : List UInt8) (ls : List (List UInt8)) : List UInt8 := l0 ++ 13 :: 10 :: linesT ls ++ [13, 10]
def HdOk (t : List UInt8) (x : X) (fs : List Fld) : Prop := ∃ l0 ls, t = HdT l0 ls ∧ cleanL l0 ∧ stE (bOf l0) = 0 ∧ x = stX (bOf l0) ∧ fldsOk ls fs ∧ whE x fs = 0

theorem curOk_cr {l : List UInt8} (h : curOk l) (hc : l.getLast? = some 13) : ∃ l', l = l' ++ [13] ∧ cleanL l' := by
  rcases h with h | h
  · exact absurd rfl (h 13 (List.mem_of_getLast? hc)).1
  · exact h
theorem curOk_no {l : List UInt8} (h : curOk l) (hc : l.getLast? ≠ some 13) : cleanL l := by
  rcases h with h | ⟨l', rfl, h⟩
  · exact h
  · simp at hc
theorem mstep_inv {lim : Nat} {m : MS X} {buf : List UInt8} {b : UInt8} (h : MInv stX stE m buf) :
    (∀ m', mstep stX stE whE lim m b = .go m' → MInv stX stE m' (buf ++ [b])) ∧ ∀ x fs, mstep stX stE whE lim m b = .whole x fs → HdOk stX stE whE (buf ++ [b]) x fs := by
  obtain ⟨hn, hc, hd⟩ := h
  unfold mstep
  split
  · exact ⟨fun m' e => (by cases e), fun x fs e => (by cases e)⟩
  split
  · exact ⟨fun m' e => (by cases e), fun x fs e => (by cases e)⟩
  rename_i hbare
  have hbare : b = 10 ↔ m.cur.getLast? = some 13 := by
    have : decide (b = 10) = decide (m.cur.getLast? = some 13) := Decidable.byContradiction hbare
    rw [Bool.eq_iff_iff] at this
    simpa using this
  split
  · rename_i hb
    refine ⟨fun m' e => ?_, fun x fs e => (by cases e)⟩
    cases e
    have hcl := curOk_no hc (fun h => hb (hbare.2 h))
    refine ⟨by simp [hn], ?_, ?_⟩
    · by_cases h13 : b = 13
      · subst h13
        exact .inr ⟨_, rfl, hcl⟩
      · refine .inl fun c hc => ?_
        rcases List.mem_append.1 hc with hc | hc
        · exact hcl c hc
        · rw [List.mem_singleton.1 hc]
          exact ⟨h13, hb⟩
    · dsimp only
      cases hh : m.hd with
      | none =>
        rw [hh] at hd
        dsimp only at hd ⊢
        rw [hd]
      | some xf =>
        obtain ⟨x, fs⟩ := xf
        rw [hh] at hd
        dsimp only at hd ⊢
        obtain ⟨l0, ls, e, r⟩ := hd
        exact ⟨l0, ls, by rw [e]; simp, r⟩
  · rename_i hb
    have hb : b = 10 := Decidable.byContradiction hb
    subst hb
    obtain ⟨l', hl, hcl⟩ := curOk_cr hc (hbare.1 rfl)
    have hdl : m.cur.dropLast = l' := by rw [hl]; simp
    rw [hdl]
    unfold mline
    split
    · rename_i hh
      rw [hh] at hd
      dsimp only at hd
      split
      · rename_i he
        refine ⟨fun m' e => ?_, fun x fs e => (by cases e)⟩
        cases e
        refine ⟨by simp [hn], .inl fun c hc => (by cases hc), ?_⟩
        exact ⟨l', [], by rw [hd, hl]; simp [linesT], hcl, he, rfl, rfl, fun l hl => (by cases hl)⟩
      · exact ⟨fun m' e => (by cases e), fun x fs e => (by cases e)⟩
    · rename_i x fs hh
      rw [hh] at hd
      dsimp only at hd
      obtain ⟨l0, ls, e0, h1, h2, h3, h4, h5⟩ := hd
      split
      · rename_i hnil
        split
        · rename_i hw
          refine ⟨fun m' e => (by cases e), fun x' fs' e => ?_⟩
          cases e
          refine ⟨l0, ls, ?_, h1, h2, h3, ⟨h4, h5⟩, hw⟩
          rw [e0, hl, hnil]
          simp [HdT]
        · exact ⟨fun m' e => (by cases e), fun x fs e => (by cases e)⟩
      · rename_i hne
        split
        · rename_i hp
          refine ⟨fun m' e => ?_, fun x fs e => (by cases e)⟩
          cases e
          refine ⟨by simp [hn], .inl fun c hc => (by cases hc), ?_⟩
          refine ⟨l0, ls ++ [l'], ?_, h1, h2, h3, by rw [h4]; simp, fun l hl => ?_⟩
          · rw [e0, hl, linesT_app, linesT_cons]
            simp [linesT]
          · rcases List.mem_append.1 hl with hl | hl
            · exact h5 l hl
            · rw [List.mem_singleton.1 hl]
              exact ⟨hne, hcl, hp⟩
        · exact ⟨fun m' e => (by cases e), fun x fs e => (by cases e)⟩
/-- what is whole is a head's text -/
theorem mrun_sound {lim : Nat} : ∀ {s : List UInt8} {m : MS X} {buf : List UInt8} {n : Nat} {x : X} {fs : List Fld}, MInv stX stE m buf → mrun stX stE whE lim m s = (n, .whole x fs) → n ≤ s.length ∧ HdOk stX stE whE (buf ++ s.take n) x fs
  | [], m, buf, n, x, fs, h, e => by
    unfold mrun at e
    cases e
  | b :: r, m, buf, n, x, fs, h, e => by
    unfold mrun at e
    obtain ⟨i1, i2⟩ := mstep_inv stX stE whE (lim := lim) (b := b) h
    cases hs : mstep stX stE whE lim m b with
    | go m' =>
      rw [hs] at e
      simp only [Prod.mk.injEq] at e
      obtain ⟨k1, k2⟩ := mrun_sound (s := r) (n := (mrun stX stE whE lim m' r).1) (i1 m' hs) (by rw [← e.2])
      refine ⟨by rw [← e.1]; simp; omega, ?_⟩
      rw [← e.1, List.take_succ_cons]
      simpa using k2
    | bad c => rw [hs] at e; cases e
    | whole x' fs' =>
      rw [hs] at e
      cases e
      refine ⟨by simp, ?_⟩
      simpa using i2 _ _ hs
theorem clean_last {l : List UInt8} (h : cleanL l) : l.getLast? ≠ some 13 := fun hc => (h 13 (List.mem_of_getLast? hc)).1 rfl
theorem mrun_clean {lim : Nat} (hd : Option (X × List Fld)) : ∀ (l : List UInt8) (cur : List UInt8) (n : Nat) (r : List UInt8), cleanL cur → cleanL l → n + l.length ≤ lim →
    mrun stX stE whE lim ⟨hd, cur, n⟩ (l ++ r) = ((mrun stX stE whE lim ⟨hd, cur ++ l, n + l.length⟩ r).1 + l.length, (mrun stX stE whE lim ⟨hd, cur ++ l, n + l.length⟩ r).2)
  | [], cur, n, r, hc, hl, hlim => by simp
  | b :: l, cur, n, r, hc, hl, hlim => by
    have hb := hl b List.mem_cons_self
    have hs : mstep stX stE whE lim ⟨hd, cur, n⟩ b = .go ⟨hd, cur ++ [b], n + 1⟩ := by
      unfold mstep
      simp only [List.length_cons] at hlim
      rw [if_neg (by dsimp only; omega), if_neg (by simp [hb.2, clean_last hc]), if_pos hb.2]
    have hc' : cleanL (cur ++ [b]) := fun c hm => by
      rcases List.mem_append.1 hm with hm | hm
      · exact hc c hm
      · rw [List.mem_singleton.1 hm]; exact hb
    have ih := mrun_clean (lim := lim) hd l (cur ++ [b]) (n + 1) r hc' (fun c hm => hl c (List.mem_cons_of_mem _ hm)) (by simp only [List.length_cons] at hlim; omega)
    rw [List.cons_append, mrun_cons, hs]
    dsimp only
    rw [ih]
    simp only [List.append_assoc, List.singleton_append, List.length_cons]
    have e : n + 1 + l.length = n + (l.length + 1) := by omega
    rw [e]
    simp only [Prod.mk.injEq, and_true]
    omega
theorem mrun_line {lim : Nat} (hd : Option (X × List Fld)) (l : List UInt8) (n : Nat) (r : List UInt8) (hl : cleanL l) (hlim : n + l.length + 2 ≤ lim) :
    mrun stX stE whE lim ⟨hd, [], n⟩ (l ++ 13 :: 10 :: r) = match mline stX stE whE hd l (n + l.length + 2) with
      | .go m' => ((mrun stX stE whE lim m' r).1 + (l.length + 2), (mrun stX stE whE lim m' r).2)
      | q => (l.length + 2, q) := by
  rw [mrun_clean stX stE whE hd l [] n (13 :: 10 :: r) (fun c hc => by cases hc) hl (by omega)]
  have h1 : mstep stX stE whE lim ⟨hd, [] ++ l, n + l.length⟩ 13 = .go ⟨hd, l ++ [13], n + l.length + 1⟩ := by
    unfold mstep
    rw [if_neg (by dsimp only; omega), if_neg (by simp [clean_last hl]), if_pos (by decide)]
    simp
  have h2 : mstep stX stE whE lim ⟨hd, l ++ [13], n + l.length + 1⟩ 10 = mline stX stE whE hd l (n + l.length + 2) := by
    unfold mstep
    rw [if_neg (by dsimp only; omega), if_neg (by simp), if_neg (by decide)]
    simp
  have e : mrun stX stE whE lim ⟨hd, [] ++ l, n + l.length⟩ (13 :: 10 :: r) = match mline stX stE whE hd l (n + l.length + 2) with
      | .go m' => ((mrun stX stE whE lim m' r).1 + 2, (mrun stX stE whE lim m' r).2)
      | q => (2, q) := by
    rw [mrun_cons, h1]
    dsimp only
    rw [mrun_cons, h2]
    cases mline stX stE whE hd l (n + l.length + 2) <;> rfl
  rw [e]
  cases mline stX stE whE hd l (n + l.length + 2) with
  | go m' =>
    simp only [Prod.mk.injEq, and_true]
    omega
  | _ =>
    simp only [Prod.mk.injEq, and_true]
    omega
theorem mrun_flds {lim : Nat} (x : X) (z : List UInt8) : ∀ (ls : List (List UInt8)) (gs : List Fld) (n : Nat), (∀ l ∈ ls, l ≠ [] ∧ cleanL l ∧ (parseF (bOf l)).2 = 0) → n + (linesT ls).length + 2 ≤ lim →
    whE x (gs ++ ls.map fun l => (parseF (bOf l)).1) = 0 →
    mrun stX stE whE lim ⟨some (x, gs), [], n⟩ (linesT ls ++ 13 :: 10 :: z) = ((linesT ls).length + 2, .whole x (gs ++ ls.map fun l => (parseF (bOf l)).1))
  | [], gs, n, hl, hlim, hw => by
    have := mrun_line stX stE whE (lim := lim) (some (x, gs)) [] n z (fun c hc => by cases hc) (by simpa [linesT] using hlim)
    simp only [List.nil_append] at this
    simp only [linesT, List.map_nil, List.flatten_nil, List.nil_append, List.append_nil] at hw ⊢
    rw [this]
    simp [mline, hw]
  | l :: ls, gs, n, hl, hlim, hw => by
    obtain ⟨h1, h2, h3⟩ := hl l List.mem_cons_self
    rw [linesT_cons] at hlim ⊢
    have e : l ++ 13 :: 10 :: linesT ls ++ 13 :: 10 :: z = l ++ 13 :: 10 :: (linesT ls ++ 13 :: 10 :: z) := by simp
    simp only [List.length_append, List.length_cons] at hlim
    have hm : mline stX stE whE (some (x, gs)) l (n + l.length + 2) = .go ⟨some (x, gs ++ [(parseF (bOf l)).1]), [], n + l.length + 2⟩ := by
      unfold mline
      dsimp only
      rw [if_neg h1, if_pos h3]
    have ih := mrun_flds (lim := lim) x z ls (gs ++ [(parseF (bOf l)).1]) (n + l.length + 2) (fun l hm => hl l (List.mem_cons_of_mem _ hm)) (by omega) (by simpa using hw)
    rw [e, mrun_line stX stE whE (some (x, gs)) l n _ h2 (by omega), hm]
    dsimp only
    rw [ih]
    simp only [List.append_assoc, List.singleton_append, List.map_cons, List.length_append, List.length_cons, Prod.mk.injEq, and_true]
    omega
/-- a head's text is taken whole -/
theorem mrun_whole {lim : Nat} {t : List UInt8} {x : X} {fs : List Fld} (h : HdOk stX stE whE t x fs) (hlim : t.length ≤ lim) (z : List UInt8) : mrun stX stE whE lim ⟨none, [], 0⟩ (t ++ z) = (t.length, .whole x fs) := by
  obtain ⟨l0, ls, rfl, h1, h2, rfl, ⟨rfl, h4⟩, h5⟩ := h
  unfold HdT at hlim ⊢
  simp only [List.length_append, List.length_cons, List.length_nil] at hlim
  have e : l0 ++ 13 :: 10 :: linesT ls ++ [13, 10] ++ z = l0 ++ 13 :: 10 :: (linesT ls ++ 13 :: 10 :: z) := by simp
  have hm : mline stX stE whE none l0 (0 + l0.length + 2) = .go ⟨some (stX (bOf l0), []), [], 0 + l0.length + 2⟩ := by
    unfold mline
    dsimp only
    rw [if_pos h2]
  rw [e, mrun_line stX stE whE none l0 0 _ h1 (by omega), hm]
  dsimp only
  rw [mrun_flds stX stE whE (stX (bOf l0)) z ls [] _ h4 (by omega) (by simpa using h5)]
  simp only [List.nil_append, List.length_append, List.length_cons, List.length_nil, Prod.mk.injEq, and_true]
  omega
end
end Go.Proofs.YthnmbfiandpedaaGreatDoor
/- Heads in plain words: what is printed of a head is that head's text, but for blanks. No statement of its own. -/
set_option linter.unusedSimpArgs false
set_option linter.unusedVariables false
set_option maxRecDepth 100000
namespace Go.Proofs.YthnmbfiandpedaaGreatDoor
open Go.RowKit

/-- without blanks and tabs -/
def bareL (l : List UInt8) : List UInt8 := l.filter fun b => !(b == 32 || b == 9)
theorem bareL_app (a b : List UInt8) : bareL (a ++ b) = bareL a ++ bareL b := List.filter_append ..
theorem blkP_or (x : UInt8) : blkP x = (x == 32 || x == 9) := by
  rw [← blkP_contains, Bool.eq_iff_iff]
  simp
theorem bare_dw (l : List UInt8) : bareL (l.dropWhile blkP) = bareL l := by
  induction l with
  | nil => rfl
  | cons x r ih =>
    rw [List.dropWhile_cons]
    split
    · rename_i h
      rw [ih]
      rw [blkP_or] at h
      unfold bareL
      rw [List.filter_cons_of_neg (by rw [h]; decide)]
    · rfl
theorem bare_rev (l : List UInt8) : bareL l.reverse = (bareL l).reverse := List.filter_reverse ..
theorem bare_rt (l : List UInt8) : bareL (rt blkP l) = bareL l := by
  unfold rt
  rw [bare_rev, bare_dw, bare_rev, List.reverse_reverse]
theorem bare_trim (s : ByteArray) : bareL (trimB s).data.toList = bareL s.data.toList := by
  rw [trim_l, bare_rt, bare_dw]
theorem bOf_l (l : List UInt8) : (bOf l).data.toList = l := rfl
theorem bOf_s (s : ByteArray) : bOf s.data.toList = s := rfl
theorem parse_split {s : ByteArray} (h : (parseF s).2 = 0) : ∃ v : List UInt8, s.data.toList = (parseF s).1.1.data.toList ++ 58 :: v ∧ (parseF s).1.2 = trimB (bOf v) := by
  revert h
  unfold parseF
  dsimp only
  split
  · intro h; cases h
  split
  · intro h; cases h
  split
  · intro h; cases h
  rename_i h1
  split
  · intro h; cases h
  rename_i h2
  split
  · intro h; cases h
  intro _
  have h2 : tw tokI s 0 + tw blkI s (tw tokI s 0) = tw tokI s 0 := Decidable.byContradiction h2
  rw [h2] at h1 ⊢
  have h3 : s.data.toList[tw tokI s 0]? = some 58 := Decidable.byContradiction fun h => h1 (.inr h)
  obtain ⟨h4, h5⟩ := List.getElem?_eq_some_iff.1 h3
  refine ⟨s.data.toList.drop (tw tokI s 0 + 1), ?_, ?_⟩
  · dsimp only
    rw [extB]
    simp only [List.drop_zero]
    rw [← h5, ← List.drop_eq_getElem_cons h4, List.take_append_drop]
  · dsimp only
    congr 1
    apply toInj
    rw [extB, bOf_l]
    congr 1
    rw [List.take_of_length_le]
    exact Nat.le_of_eq (blen s)
theorem lineF_l (f : Fld) : (lineF f).data.toList = if f.2.size = 0 then f.1.data.toList ++ [58] else f.1.data.toList ++ 58 :: 32 :: f.2.data.toList := by
  unfold lineF
  split <;> simp
theorem bare_line {s : ByteArray} (h : (parseF s).2 = 0) : bareL (lineF (parseF s).1).data.toList = bareL s.data.toList := by
  obtain ⟨v, h1, h2⟩ := parse_split h
  have h3 : bareL (parseF s).1.2.data.toList = bareL v := by rw [h2, bare_trim]; rfl
  rw [h1, lineF_l]
  split
  · rename_i h0
    have h4 : (parseF s).1.2.data.toList = [] := by
      have := blen (parseF s).1.2
      exact List.eq_nil_of_length_eq_zero (this.trans h0)
    rw [h4] at h3
    rw [bareL_app, bareL_app]
    have e : bareL (58 :: v) = 58 :: bareL v := by simp [bareL]
    rw [e, ← h3]
    rfl
  · rw [bareL_app, bareL_app]
    have e : bareL (58 :: v) = 58 :: bareL v := by simp [bareL]
    have e2 : bareL (58 :: 32 :: (parseF s).1.2.data.toList) = 58 :: bareL (parseF s).1.2.data.toList := by simp [bareL]
    rw [e, e2, h3]
theorem line_parse {f : Fld} (h : checkF f = 0) : parseF (lineF f) = (f, 0) := by
  have := parse_text h
  rwa [textF_line, if_neg (by simp [h])] at this
theorem line_clean {f : Fld} (h : checkF f = 0) : cleanL (lineF f).data.toList := by
  obtain ⟨h1, h2, _⟩ := check_ok h
  have k1 : ∀ b ∈ f.1.data.toList, b ≠ 13 ∧ b ≠ 10 := fun b hb => by
    have := (tok_facts b ((tokB_facts h1).2 b hb)).1
    simpa using this
  have k2 : ∀ b ∈ f.2.data.toList, b ≠ 13 ∧ b ≠ 10 := fun b hb => by
    have := val_facts b (allI_mem h2 b hb)
    simpa using this
  intro b hb
  rw [lineF_l] at hb
  split at hb
  · rcases List.mem_append.1 hb with hb | hb
    · exact k1 b hb
    · rw [List.mem_singleton.1 hb]; decide
  · rcases List.mem_append.1 hb with hb | hb
    · exact k1 b hb
    · rcases List.mem_cons.1 hb with rfl | hb
      · decide
      · rcases List.mem_cons.1 hb with rfl | hb
        · decide
        · exact k2 b hb
theorem line_ne (f : Fld) : (lineF f).data.toList ≠ [] := by
  rw [lineF_l]
  split <;> simp
theorem line_size {s : ByteArray} (h : (parseF s).2 = 0) : (lineF (parseF s).1).size ≤ s.size + 1 := by
  obtain ⟨h1, h2⟩ := parse_ok h
  rw [textF_line, if_neg (by simp [h1])] at h2
  exact h2

section
variable {X : Type} (stX : ByteArray → X) (stE : ByteArray → Int) (whE : X → List Fld → Int)
/-- what is printed -/
def prT (l0 : List UInt8) (fs : List Fld) : List UInt8 := HdT l0 (fs.map fun f => (lineF f).data.toList)
theorem flds_check {ls : List (List UInt8)} {fs : List Fld} (h : fldsOk ls fs) : ∀ f ∈ fs, checkF f = 0 := by
  obtain ⟨rfl, h⟩ := h
  intro f hf
  obtain ⟨l, hl, rfl⟩ := List.mem_map.1 hf
  exact (parse_ok (h l hl).2.2).1
theorem flds_again {ls : List (List UInt8)} {fs : List Fld} (h : fldsOk ls fs) : fldsOk (fs.map fun f => (lineF f).data.toList) fs := by
  have hc := flds_check h
  refine ⟨?_, fun l hl => ?_⟩
  · rw [List.map_map]
    have : ∀ f ∈ fs, ((fun l => (parseF (bOf l)).1) ∘ fun f => (lineF f).data.toList) f = f := fun f hf => by
      show (parseF (bOf (lineF f).data.toList)).1 = f
      rw [bOf_s, line_parse (hc f hf)]
    exact (List.map_congr_left this |>.trans (List.map_id' fs)).symm
  · obtain ⟨f, hf, rfl⟩ := List.mem_map.1 hl
    exact ⟨line_ne f, line_clean (hc f hf), by rw [bOf_s, line_parse (hc f hf)]⟩
theorem lines_bare {ls : List (List UInt8)} {fs : List Fld} (h : fldsOk ls fs) : bareL (linesT (fs.map fun f => (lineF f).data.toList)) = bareL (linesT ls) := by
  obtain ⟨rfl, h⟩ := h
  induction ls with
  | nil => rfl
  | cons l ls ih =>
    simp only [List.map_cons, linesT_cons]
    have e1 : ∀ (a b : List UInt8), bareL (a ++ 13 :: 10 :: b) = bareL a ++ 13 :: 10 :: bareL b := fun a b => by
      rw [bareL_app]
      simp [bareL]
    rw [e1, e1, ih fun l hl => h l (List.mem_cons_of_mem _ hl), bare_line (h l List.mem_cons_self).2.2]
    rfl
theorem lines_size {ls : List (List UInt8)} {fs : List Fld} (h : fldsOk ls fs) : (linesT (fs.map fun f => (lineF f).data.toList)).length ≤ (linesT ls).length + fs.length := by
  obtain ⟨rfl, h⟩ := h
  induction ls with
  | nil => simp
  | cons l ls ih =>
    simp only [List.map_cons, linesT_cons, List.length_append, List.length_cons]
    have := ih fun l hl => h l (List.mem_cons_of_mem _ hl)
    have h2 := line_size (h l List.mem_cons_self).2.2
    have e : (lineF (parseF (bOf l)).1).data.toList.length = (lineF (parseF (bOf l)).1).size := blen _
    have e2 : (bOf l).size = l.length := by simp [bOf, ByteArray.size]
    omega
/-- what is printed of a head is one, of the same bytes but for blanks -/
theorem pr_again {t : List UInt8} {x : X} {fs : List Fld} (h : HdOk stX stE whE t x fs) : ∃ l0, cleanL l0 ∧ stE (bOf l0) = 0 ∧ x = stX (bOf l0) ∧ whE x fs = 0 ∧ (∀ f ∈ fs, checkF f = 0) ∧ l0.length ≤ t.length ∧ HdOk stX stE whE (prT l0 fs) x fs ∧ bareL (prT l0 fs) = bareL t ∧ (prT l0 fs).length ≤ t.length + fs.length := by
  obtain ⟨l0, ls, rfl, h1, h2, h3, h4, h5⟩ := h
  refine ⟨l0, h1, h2, h3, h5, flds_check h4, ?_, ⟨l0, _, rfl, h1, h2, h3, flds_again h4, h5⟩, ?_, ?_⟩
  · simp [HdT]
  · unfold prT HdT
    have e1 : ∀ (a b : List UInt8), bareL (a ++ 13 :: 10 :: b ++ [13, 10]) = bareL a ++ 13 :: 10 :: bareL b ++ [13, 10] := fun a b => by
      rw [bareL_app, bareL_app]
      simp [bareL]
    rw [e1, e1, lines_bare h4]
  · unfold prT HdT
    have := lines_size h4
    simp only [List.length_append, List.length_cons, List.length_nil]
    omega
end
end Go.Proofs.YthnmbfiandpedaaGreatDoor
/- Heads in plain words: where a head's text ends, its lines, and which Host fields may be. No statement of its own. -/
set_option linter.unusedSimpArgs false
set_option linter.unusedVariables false
set_option maxRecDepth 100000
namespace Go.Proofs.YthnmbfiandpedaaGreatDoor
open Go.RowKit
def endL : List UInt8 := [13, 10, 13, 10]
theorem idx_clean {l X sub : List UInt8} (hl : cleanL l) : Lib.index (l ++ X) (13 :: sub) = if Lib.index X (13 :: sub) = -1 then -1 else (l.length : Int) + Lib.index X (13 :: sub) := by
  induction l with
  | nil =>
    simp only [List.nil_append, List.length_nil]
    split <;> omega
  | cons b l ih =>
    have hb := hl b List.mem_cons_self
    have ih := ih fun c hc => hl c (List.mem_cons_of_mem _ hc)
    have hge := Lib.index_ge X (13 :: sub)
    have hp : (13 :: sub : List UInt8).isPrefixOf (b :: (l ++ X)) = false := by
      have : ((13 : UInt8) == b) = false := beq_eq_false_iff_ne.2 (Ne.symm hb.1)
      simp [List.isPrefixOf, this]
    rw [List.cons_append, Lib.index, hp, ih, if_neg Bool.false_ne_true]
    simp only [List.length_cons]
    by_cases h : Lib.index X (13 :: sub) = -1
    · rw [if_pos h, if_pos h]
      rfl
    · rw [if_neg h, if_neg h]
      have : ((l.length : Int) + Lib.index X (13 :: sub) == -1) = false := beq_eq_false_iff_ne.2 (by omega)
      rw [this]
      simp
      omega
theorem idx_line {l r : List UInt8} (hl : cleanL l) : Lib.index (l ++ 13 :: 10 :: r) crlfL = l.length := by
  have e : Lib.index (13 :: 10 :: r) [13, 10] = 0 := by simp [Lib.index, List.isPrefixOf]
  unfold crlfL
  rw [idx_clean hl, e]
  simp
theorem idx_none {l : List UInt8} (hl : cleanL l) : Lib.index l crlfL = -1 := by
  have e : Lib.index [] [13, 10] = -1 := rfl
  have := idx_clean (X := []) (sub := [10]) hl
  rw [e, List.append_nil, if_pos rfl] at this
  exact this
theorem idx_end : ∀ {ls : List (List UInt8)}, (∀ l ∈ ls, l ≠ [] ∧ cleanL l) → Lib.index (13 :: 10 :: (linesT ls ++ [13, 10])) endL = (linesT ls).length
  | [], _ => by decide +kernel
  | l :: ls, h => by
    obtain ⟨h1, h2⟩ := h l List.mem_cons_self
    have ih := idx_end (ls := ls) fun x hx => h x (List.mem_cons_of_mem _ hx)
    rw [linesT_cons]
    have e : l ++ 13 :: 10 :: linesT ls ++ [13, 10] = l ++ 13 :: 10 :: (linesT ls ++ [13, 10]) := by simp
    rw [e]
    have k3 : Lib.index (l ++ 13 :: 10 :: (linesT ls ++ [13, 10])) endL = ((l.length + (linesT ls).length : Nat) : Int) := by
      unfold endL at ih ⊢
      rw [idx_clean h2, ih, if_neg (by omega)]
      omega
    generalize hY : l ++ 13 :: 10 :: (linesT ls ++ [13, 10]) = Y at k3
    cases l with
    | nil => exact absurd rfl h1
    | cons c l =>
      have hc := h2 c List.mem_cons_self
      rw [List.cons_append] at hY
      have hp1 : (endL).isPrefixOf (13 :: 10 :: Y) = false := by
        have : ((13 : UInt8) == c) = false := beq_eq_false_iff_ne.2 (Ne.symm hc.1)
        subst hY
        simp [endL, List.isPrefixOf, this]
      have hp2 : (endL).isPrefixOf (10 :: Y) = false := by simp [endL, List.isPrefixOf]
      rw [Lib.index, hp1, Lib.index, hp2, k3]
      have q1 : ((((c :: l).length + (linesT ls).length : Nat) : Int) == -1) = false := beq_eq_false_iff_ne.2 (by omega)
      rw [q1]
      simp only [Bool.false_eq_true, if_false]
      have q2 : ((((c :: l).length + (linesT ls).length : Nat) : Int) + 1 == -1) = false := beq_eq_false_iff_ne.2 (by omega)
      rw [q2]
      simp only [Bool.false_eq_true, if_false, List.length_append, List.length_cons]
      omega
/-- a head's lines, without their ends -/
def joinL (l0 : List UInt8) (ls : List (List UInt8)) : List UInt8 := l0 ++ ls.flatMap fun l => 13 :: 10 :: l
theorem joinL_cons (l0 l : List UInt8) (ls : List (List UInt8)) : joinL l0 (l :: ls) = l0 ++ 13 :: 10 :: joinL l ls := by
  simp [joinL]
theorem hdT_join : ∀ (ls : List (List UInt8)) (l0 : List UInt8), HdT l0 ls = joinL l0 ls ++ endL
  | [], l0 => by simp [HdT, joinL, linesT, endL]
  | l :: ls, l0 => by
    have := hdT_join ls l
    rw [joinL_cons]
    unfold HdT at this ⊢
    rw [linesT_cons]
    simp only [List.append_assoc, List.cons_append] at this ⊢
    rw [this]
theorem idx_head {l0 : List UInt8} {ls : List (List UInt8)} (h0 : cleanL l0) (h : ∀ l ∈ ls, l ≠ [] ∧ cleanL l) : Lib.index (HdT l0 ls) endL = (joinL l0 ls).length := by
  have e : HdT l0 ls = l0 ++ 13 :: 10 :: (linesT ls ++ [13, 10]) := by simp [HdT]
  have k := idx_end h
  have hlen := congrArg List.length (hdT_join ls l0)
  rw [e] at hlen ⊢
  simp only [List.length_append, List.length_cons, List.length_nil, endL] at hlen
  unfold endL at k ⊢
  rw [idx_clean h0, k, if_neg (by omega)]
  omega
theorem split_lines : ∀ (ls : List (List UInt8)) (l0 : List UInt8), cleanL l0 → (∀ l ∈ ls, cleanL l) → splG (bOf (joinL l0 ls)) crlfS = (l0 :: ls).map bOf
  | [], l0, h0, _ => by
    have e : joinL l0 [] = l0 := by simp [joinL]
    rw [e]
    exact splG_miss (idx_none h0)
  | l :: ls, l0, h0, h => by
    have ih := split_lines ls l (h l List.mem_cons_self) fun x hx => h x (List.mem_cons_of_mem _ hx)
    rw [joinL_cons, splG_hit (i := l0.length) (by decide) (idx_line h0), List.map_cons, ← ih]
    have hz : (bOf (l0 ++ 13 :: 10 :: joinL l ls)).size = l0.length + 2 + (joinL l ls).length := by
      show (l0 ++ 13 :: 10 :: joinL l ls).length = _
      simp only [List.length_append, List.length_cons]
      omega
    congr 1
    · apply toInj
      rw [extB, bOf_l, bOf_l]
      simp
    · congr 1
      apply toInj
      rw [extB, bOf_l, bOf_l, hz]
      have e2 : crlfS.size = 2 := rfl
      rw [e2, List.take_of_length_le (by simp only [List.length_append, List.length_cons]; omega)]
      have e3 : l0 ++ 13 :: 10 :: joinL l ls = (l0 ++ [13, 10]) ++ joinL l ls := by simp
      rw [e3]
      exact List.drop_left' (by simp)
def hostS : ByteArray := ⟨#[72, 111, 115, 116]⟩
def oneHost (s : ByteArray) : Bool := ((hostP s).2 == 0) || (s.size == 0)
/-- which Host fields may be -/
def hostsA (x : HX) (fs : List Fld) : Bool := if x.kind ≠ 1 then true else if 1 < (valsW hostS fs).length ∨ ((valsW hostS fs).length : Int) < x.minor then false else (valsW hostS fs).all oneHost
/-- what is wrong with a head whose lines are right -/
def wholeA (x : HX) (fs : List Fld) : Int := if 100 < fs.length then 3 else if hostsA x fs = false then 27 else 0
theorem whole_cnt {x : HX} {fs : List Fld} (h : wholeA x fs = 0) : fs.length ≤ 100 ∧ hostsA x fs = true := by
  unfold wholeA at h
  split at h
  · cases h
  · split at h
    · cases h
    · rename_i h1 h2
      exact ⟨by omega, by simpa using h2⟩
end Go.Proofs.YthnmbfiandpedaaGreatDoor
/- Heads: which may be, walked. No statement of its own. -/
set_option linter.unusedSimpArgs false
set_option linter.unusedVariables false
set_option maxRecDepth 100000
namespace Go.Proofs.YthnmbfiandpedaaGreatDoor
open Go.RowKit
/-- a row of fields, of whatever make -/
def RowH (a : AV) (fs : List Fld) : Prop := (a = .nilS ∧ fs = []) ∨ a = .sl .no 2 (fldL fs) ∨ a = .sl .tight 2 (fldL fs) ∨ ∃ t e, a = .sl (.own t e) 2 (fldL fs)
theorem RowH.cell {a : AV} {fs : List Fld} (h : RowH a fs) : cellW a (.sl .no 2 (fldL fs)) := by
  rcases h with ⟨rfl, rfl⟩ | rfl | rfl | ⟨t, e, rfl⟩
  · exact .inr ⟨rfl, 2, rfl⟩
  · exact .inl ⟨rfl, rfl⟩
  · exact .inl ⟨rfl, rfl⟩
  · exact .inl ⟨rfl, rfl⟩
theorem hx_arg {a : AV} {fs : List Fld} (x : HX) (h : RowH a fs) : argW (hxA x a) (hxA x (.sl .no 2 (fldL fs))) :=
  .inl (.inr ⟨_, _, rfl, rfl, .inl ⟨rfl, rfl⟩, .inl ⟨rfl, rfl⟩, .inl ⟨rfl, rfl⟩, .inl ⟨rfl, rfl⟩, .inl ⟨rfl, rfl⟩, .inl ⟨rfl, rfl⟩, h.cell, trivial⟩)
set_option maxHeartbeats 1000000 in
theorem hosts_p (x : HX) (fs : List Fld) (hl : fs.length ≤ 100000) (hz : ∀ f ∈ fs, f.1.size ≤ 1000000 ∧ f.2.size ≤ 1000000) : APure Tryz.prog 57 [hxA x (.sl .no 2 (fldL fs))] (.b (hostsA x fs)) [] := by
  have hmx : maxLen = 9223372036854775807 := rfl
  obtain ⟨k, m, t, c, r, n⟩ := x
  have hZ : hostsA ⟨k, m, t, c, r, n⟩ fs = if k ≠ 1 then true else if 1 < (valsW hostS fs).length ∨ ((valsW hostS fs).length : Int) < n then false else (valsW hostS fs).all oneHost := rfl
  generalize hostsA ⟨k, m, t, c, r, n⟩ fs = Z at hZ
  have hvl := valsW_len hostS fs
  have hvz : ∀ v ∈ valsW hostS fs, v.size ≤ 1000000 := fun v hv => by
    obtain ⟨f, hf, rfl⟩ := valsW_mem hv
    exact (hz f hf).2
  refine APure.of rfl ?_
  refine ACalls.of_vc T_ok mixed Tryz.func57 rfl Tryz.call57 ?_
  refine ⟨_, rfl, ?_⟩
  refine cnd_split (fun h => ?_) (fun h => ?_)
  · rw [if_pos (bne_iff_ne.1 h)] at hZ
    subst hZ
    rfl
  rw [if_neg (fun h' => h' (bne_eq_false_iff_eq.1 h))] at hZ
  refine ⟨_, rfl, ?_⟩
  refine .s (newV_a (.inl rfl) (by omega) (fun b q st1 m1 hb hlt hq => ?_))
  refine .s (valuesV_a fs hostS (by omega) (fun f hf => by have := hz f hf; omega) (by decide) hb (fun st2 m2 => ?_))
  have h0 := (m1.trans m2 (fun _ _ h => h)).at' (q := 0) rfl (fun h => h)
  generalize valsW hostS fs = V at hZ hvl hvz ⊢
  have eV := strL_len V
  have key : ((decide ((V.length : Int) > 1)) = true → Z = false) ∧ (decide ((V.length : Int) > 1) = false → decide ((V.length : Int) < n) = true → Z = false) ∧ (decide ((V.length : Int) > 1) = false → decide ((V.length : Int) < n) = false → Z = V.all oneHost) := by
    refine ⟨fun h => ?_, fun h h2 => ?_, fun h h2 => ?_⟩
    · have := of_decide_eq_true h
      rw [if_pos (.inl (by omega))] at hZ
      exact hZ
    · have := of_decide_eq_true h2
      rw [if_pos (.inr this)] at hZ
      exact hZ
    · have := of_decide_eq_false h
      have := of_decide_eq_false h2
      rw [if_neg (fun h => h.elim (fun h => by omega) (fun h => by omega))] at hZ
      exact hZ
  rw [← eV] at key
  refine cnd_split (fun h => ?_) (fun h => ?_)
  · have := key.1 h
    subst this
    rfl
  refine ⟨_, h0, ?_⟩
  refine cnd_split (fun h2 => ?_) (fun h2 => ?_)
  · have := key.2.1 h h2
    subst this
    rfl
  have hZ2 := key.2.2 h h2
  clear key hZ
  refine vc_loop [27] (fun g vals st' => ∃ j : Nat, j + g = V.length ∧ vals = [.i j] ∧ (V.take j).all oneHost = true) V.length rfl ⟨0, by omega, rfl, rfl⟩ ?_
  rintro g vals st' ⟨j, hj, rfl, hall⟩
  refine cnd_split (fun hd => ?_) (fun hd => ?_)
  · have hd := of_decide_eq_true hd
    have j1 : j < V.length := by omega
    have hs := hvz V[j] (List.getElem_mem j1)
    have hp := hostP_p V[j] (by omega)
    have hall1 : oneHost V[j] = true → (V.take (j + 1)).all oneHost = true := fun h => by
      rw [List.take_succ_eq_append_getElem j1, List.all_append, hall]
      simpa using h
    have hno : oneHost V[j] = false → Z = false := fun h => by
      rw [hZ2]
      cases hq : V.all oneHost with
      | false => rfl
      | true => rw [List.all_eq_true.1 hq V[j] (List.getElem_mem j1)] at h; cases h
    have ho : oneHost V[j] = (((hostP V[j]).2 == 0) || (V[j].size == 0)) := rfl
    rw [ho] at hall1 hno
    refine ⟨j, _, rfl, strL_at j1, ?_⟩
    generalize hostP V[j] = hp2 at hp hall1 hno
    obtain ⟨⟨q1, q2, q3⟩, e⟩ := hp2
    dsimp only at hall1 hno
    refine .p rfl hp ?_
    refine ⟨_, last_at _ _, ?_⟩
    refine cnd_split (fun h3 => ?_) (fun h3 => ?_)
    · have he : (e == 0) = false := beq_eq_false_iff_ne.2 (bne_iff_ne.1 h3)
      rw [he, Bool.false_or] at hall1 hno
      intro t ht
      have ht : t = false ↔ V[j] = ⟨#[]⟩ := ht
      cases t with
      | true =>
        have h0 : (V[j].size == 0) = false := beq_eq_false_iff_ne.2 fun h0 => by
          have := ht.2 ((emp_iff _).2 h0)
          cases this
        have := hno h0
        subst this
        rfl
      | false =>
        have h0 : (V[j].size == 0) = true := beq_iff_eq.2 ((emp_iff _).1 (ht.1 rfl))
        intro c hc
        rw [IntWalk.i64_in _ (by omega)] at hc
        obtain rfl : c = ((j + 1 : Nat) : Int) := by omega
        exact ⟨g - 1, by omega, j + 1, by omega, rfl, hall1 h0⟩
    · have he : (e == 0) = true := beq_iff_eq.2 (bne_eq_false_iff_eq.1 h3)
      rw [he, Bool.true_or] at hall1
      intro c hc
      rw [IntWalk.i64_in _ (by omega)] at hc
      obtain rfl : c = ((j + 1 : Nat) : Int) := by omega
      exact ⟨g - 1, by omega, j + 1, by omega, rfl, hall1 rfl⟩
  · have hd := of_decide_eq_false hd
    rw [List.take_of_length_le (by omega)] at hall
    rw [hall] at hZ2
    subst hZ2
    rfl
end Go.Proofs.YthnmbfiandpedaaGreatDoor
/- Heads, checked and printed. No statement of its own. -/
set_option linter.unusedSimpArgs false
set_option linter.unusedVariables false
set_option maxRecDepth 100000
namespace Go.Proofs.YthnmbfiandpedaaGreatDoor
open Go.RowKit
theorem whole_p (x : HX) (fs : List Fld) (hl : fs.length ≤ 100000) (hz : ∀ f ∈ fs, f.1.size ≤ 1000000 ∧ f.2.size ≤ 1000000) : APure Tryz.prog 33 [hxA x (.sl .no 2 (fldL fs))] (.i (wholeA x fs)) [] := by
  have hmx : maxLen = 9223372036854775807 := rfl
  have el := fldL_len fs
  have q := hosts_p x fs hl hz
  have hZ : wholeA x fs = if 100 < fs.length then 3 else if hostsA x fs = false then 27 else 0 := rfl
  generalize wholeA x fs = Z at hZ ⊢
  generalize hostsA x fs = H at q hZ
  refine APure.of rfl (ACalls.of_vc T_ok mixed Tryz.func33 rfl Tryz.call33 ?_)
  refine ⟨_, rfl, ?_⟩
  refine cnd_split (fun h => ?_) (fun h => ?_)
  · rw [if_pos (by have := of_decide_eq_true h; omega)] at hZ
    subst hZ
    rfl
  rw [if_neg (by have := of_decide_eq_false h; omega)] at hZ
  refine ⟨_, rfl, ?_⟩
  refine .p rfl q ?_
  cases H with
  | true =>
    rw [if_neg (by decide)] at hZ
    subst hZ
    rfl
  | false =>
    rw [if_pos rfl] at hZ
    subst hZ
    rfl
/-- a head that may be -/
structure HOk (x : HX) (fs : List Fld) (s : ByteArray) : Prop where
  text : textA x = (s, 0)
  ok : x.Ok s
  size : s.size ≤ 100000
  flds : ∀ f ∈ fs, checkF f = 0
  fz : ∀ f ∈ fs, f.1.size ≤ 100000 ∧ f.2.size ≤ 100000
  whole : wholeA x fs = 0
theorem HOk.text_p {x : HX} {fs : List Fld} {s : ByteArray} (h : HOk x fs s) : APure Tryz.prog 17 [hxA x (.sl .no 2 (fldL fs))] (.tup [.s s, .i 0]) [] := by
  have h1 := h.ok.minor
  have h2 := h.ok.code
  have h3 := h.ok.line
  have h4 := h.ok.lineW
  have h5 := h.size
  have := Go.Proofs.YthnmbfiandpedaaGreatDoor.text_p x (fldL fs) (by omega) (by omega) (by rw [h3]; omega) (by omega)
  rw [h.text] at this
  exact this
set_option maxHeartbeats 1000000 in
theorem hcheck_p {x : HX} {fs : List Fld} {s : ByteArray} (h : HOk x fs s) : APure Tryz.prog 15 [hxA x (.sl .no 2 (fldL fs))] (.i 0) [] := by
  have hmx : maxLen = 9223372036854775807 := rfl
  have el := fldL_len fs
  have hc := (whole_cnt h.whole).1
  have q := h.text_p
  have qw := whole_p x fs (by omega) (fun f hf => by have := h.fz f hf; omega)
  rw [h.whole] at qw
  have hck := h.flds
  have hfz := h.fz
  clear h
  refine APure.of rfl ?_
  refine ACalls.of_vc T_ok mixed Tryz.func15 rfl Tryz.call15 ?_
  refine ⟨_, rfl, ?_⟩
  refine .p rfl q ?_
  refine ⟨_, rfl, ?_⟩
  refine vc_loop [19] (fun g vals st' => ∃ j : Nat, j + g = fs.length ∧ vals = [.i j] ∧ st'.heap[0]? = some [.i x.kind, .s x.method, .s x.target, .i x.code, .s x.reason, .i x.minor, .sl .no 2 (fldL fs)]) fs.length rfl ⟨0, by omega, rfl, rfl⟩ ?_
  rintro g vals st' ⟨j, hj, rfl, h0⟩
  refine cnd_split (fun hd => ?_) (fun hd => ?_)
  · have hd := of_decide_eq_true hd
    have j1 : j < fs.length := by omega
    have hs := hfz fs[j] (List.getElem_mem j1)
    have hp := check_p fs[j].1 fs[j].2 (by omega) (by omega)
    have hc0 : checkF (fs[j].1, fs[j].2) = 0 := hck fs[j] (List.getElem_mem j1)
    rw [hc0] at hp
    have h0' := lt_of h0
    refine ⟨j, _, rfl, fldL_at j1, ?_⟩
    refine ⟨_, last_at _ _, ?_⟩
    refine ⟨_, last_upd _ _ _, ?_⟩
    refine .p rfl hp ?_
    intro c hc
    rw [IntWalk.i64_in _ (by omega)] at hc
    obtain rfl : c = ((j + 1 : Nat) : Int) := by omega
    exact ⟨g - 1, by omega, j + 1, by omega, rfl, st_ne (by omega) (ap h0)⟩
  · refine ⟨_, h0, ?_⟩
    refine .p rfl qw ?_
    rfl
section
variable {st : St} {R : AV → St → Prop} {p q : Nat} {a : AV} {Lb : List UInt8} {m : Nat}
/-- a line of a head is written -/
theorem pline_a (s : ByteArray) (hs : s.size ≤ 1000000) (hp : st.heap[p]? = some [.ptr q 0, .b false]) (hq : st.heap[q]? = some [a, .i m]) (hpq : p ≠ q) (hA : Acc 0 st.tk 1 a (u8L Lb)) (hf : Lb.length + (s.size + 2) ≤ m) (hm : m ≤ 1099511627776)
    (h : ∀ a' st', st'.heap[p]? = some [.ptr q 0, .b false] → st'.heap[q]? = some [a', .i m] → Acc 0 st'.tk 1 a' (u8L (Lb ++ (s.data.toList ++ [13, 10]))) → Mv 0 (fun k => k = p ∨ k = q) st st' → R (.tup []) st') : ACalls Tryz.prog 18 [.ptr p 0, .s s] st R := by
  refine ACalls.of_vc T_ok mixed Tryz.func18 rfl Tryz.call18 ?_
  refine ⟨_, hp, ?_⟩
  refine .s (qline_a s (by omega) hq hA (by omega) hm (fun _ a' st' k1 k2 k3 => ?_) (fun h => by omega))
  have hp' := k3.at' hp hpq
  refine ⟨_, hp', ?_⟩
  refine ⟨_, hp', ?_⟩
  exact h a' _ (st_eq hp') (st_ne hpq k1) k2 ((k3.wide fun _ _ e => .inr e).set (fun _ => .inl rfl) _)
end
theorem linesT_snoc (ls : List (List UInt8)) (l : List UInt8) : linesT (ls ++ [l]) = linesT ls ++ (l ++ [13, 10]) := by
  simp [linesT, crlfL]
/-- a head's text so far -/
def prK (l0 : List UInt8) (fs : List Fld) (k : Nat) : List UInt8 := l0 ++ 13 :: 10 :: linesT ((fs.take k).map fun f => (lineF f).data.toList)
theorem prK_succ {l0 : List UInt8} {fs : List Fld} {k : Nat} (h : k < fs.length) : prK l0 fs (k + 1) = prK l0 fs k ++ ((lineF fs[k]).data.toList ++ [13, 10]) := by
  unfold prK
  rw [List.take_succ_eq_append_getElem h, List.map_append, List.map_singleton, linesT_snoc]
  simp
theorem prK_le (l0 : List UInt8) (fs : List Fld) (k : Nat) : (prK l0 fs k).length + 2 ≤ (prT l0 fs).length := by
  have e : prT l0 fs = prK l0 fs k ++ (linesT ((fs.drop k).map fun f => (lineF f).data.toList) ++ [13, 10]) := by
    unfold prT HdT prK
    conv => lhs; rw [← List.take_append_drop k fs]
    rw [List.map_append, linesT_app]
    simp
  rw [e]
  simp
set_option maxHeartbeats 2000000 in
theorem hprint_p {x : HX} {fs : List Fld} {s : ByteArray} (h : HOk x fs s) (m : Nat) (hm : m ≤ 65536) (hfit : (prT s.data.toList fs).length ≤ m) : APure Tryz.prog 8 [hxA x (.sl .no 2 (fldL fs)), .i m] (.tup [.s (bOf (prT s.data.toList fs)), .i 0]) [] := by
  have hmx : maxLen = 9223372036854775807 := rfl
  have el := fldL_len fs
  have hc := (whole_cnt h.whole).1
  have q := h.text_p
  have qc := hcheck_p h
  have hck := h.flds
  have hfz := h.fz
  have hsz := h.size
  have hle := prK_le s.data.toList fs
  have hsl := blen s
  have hk0 : prK s.data.toList fs 0 = s.data.toList ++ [13, 10] := by simp [prK, linesT]
  have hle0 := hle 0
  rw [hk0, List.length_append, hsl] at hle0
  have hfin : prK s.data.toList fs fs.length ++ ([] ++ [13, 10]) = prT s.data.toList fs := by
    unfold prK prT HdT
    rw [List.take_length]
    simp
  clear h
  refine APure.of rfl ?_
  refine ACalls.of_vc T_ok mixed Tryz.func8 rfl Tryz.call8 ?_
  refine ⟨_, rfl, ?_⟩
  refine .p rfl qc ?_
  refine .s (qnew_a m ?_)
  refine ⟨(by decide : 1 < 2), ?_⟩
  refine ⟨_, rfl, ?_⟩
  refine .p rfl q ?_
  refine .s (pline_a (p := 2) (Lb := []) (a := .nilS) (m := m) (q := 1) s (by omega) rfl rfl (by decide) .nil (by show 0 + (s.size + 2) ≤ m; have : ([13, 10] : List UInt8).length = 2 := rfl; omega) (by omega) (fun a1 st1 k1 k2 k3 k4 => ?_))
  have h0 := k4.at' (q := 0) rfl (by decide)
  rw [List.nil_append, ← hk0] at k3
  refine ⟨_, h0, ?_⟩
  refine vc_loop [34] (fun g vals st' => ∃ (j : Nat) (a : AV), j + g = fs.length ∧ vals = [.i j] ∧ st'.heap[2]? = some [.ptr 1 0, .b false] ∧ st'.heap[1]? = some [a, .i m] ∧ Acc 0 st'.tk 1 a (u8L (prK s.data.toList fs j))) fs.length rfl ⟨0, a1, by omega, rfl, k1, k2, k3⟩ ?_
  clear k1 k2 k3 k4 h0
  rintro g vals st' ⟨j, a, hj, rfl, k1, k2, k3⟩
  refine cnd_split (fun hd => ?_) (fun hd => ?_)
  · have hd := of_decide_eq_true hd
    have j1 : j < fs.length := by omega
    have hs := hfz fs[j] (List.getElem_mem j1)
    have hp := ftext_p fs[j].1 fs[j].2 (by omega) (by omega)
    have hc0 : textF (fs[j].1, fs[j].2) = (lineF fs[j], 0) := by
      rw [textF_line, if_neg (by have := hck fs[j] (List.getElem_mem j1); simpa using this)]
    rw [hc0] at hp
    have hlz := lineF_size fs[j]
    have hsu := prK_succ (l0 := s.data.toList) j1
    have hle1 := hle (j + 1)
    rw [hsu, List.length_append, List.length_append, blen] at hle1
    have hln := lt_of k1
    refine ⟨j, _, rfl, fldL_at j1, ?_⟩
    refine ⟨_, last_at _ _, ?_⟩
    refine ⟨_, last_upd _ _ _, ?_⟩
    refine .p rfl hp ?_
    have h132 : ([13, 10] : List UInt8).length = 2 := rfl
    have hq1 : 1 < st'.heap.length := by omega
    refine .s (pline_a (p := 2) (q := 1) (Lb := prK s.data.toList fs j) (lineF fs[j]) (by omega) (st_ne (by omega) (ap k1)) (st_ne (by omega) (ap k2)) (by decide) k3 (by omega) (by omega) (fun a2 st2 z1 z2 z3 z4 => ?_))
    rw [← hsu] at z3
    intro c hc
    rw [IntWalk.i64_in _ (by omega)] at hc
    obtain rfl : c = ((j + 1 : Nat) : Int) := by omega
    exact ⟨g - 1, by omega, j + 1, a2, by omega, rfl, z1, z2, z3⟩
  · have hd := of_decide_eq_false hd
    obtain rfl : j = fs.length := by omega
    have hle1 := hle fs.length
    refine .s (pline_a (p := 2) (q := 1) (Lb := prK s.data.toList fs fs.length) ⟨#[]⟩ (by decide) k1 k2 (by decide) k3 (by show _ + (0 + 2) ≤ m; omega) (by omega) (fun a2 st2 z1 z2 z3 z4 => ?_))
    have z3 : Acc 0 st2.tk 1 a2 (u8L (prK s.data.toList fs fs.length ++ ([] ++ [13, 10]))) := z3
    rw [hfin] at z3
    refine ⟨_, z1, ?_⟩
    refine ⟨_, z1, ?_⟩
    refine .s (qtext_a z2 z3 ?_)
    rfl
end Go.Proofs.YthnmbfiandpedaaGreatDoor
/- Heads, read. No statement of its own. -/
set_option linter.unusedSimpArgs false
set_option linter.unusedVariables false
set_option maxRecDepth 100000
namespace Go.Proofs.YthnmbfiandpedaaGreatDoor
open Go.RowKit
def endS : ByteArray := ⟨#[13, 10, 13, 10]⟩
theorem startA_kind {k : Int} {s : ByteArray} {x : HX} (h : startA k s = (x, 0)) : k = 1 ∨ k = 2 := by
  unfold startA at h
  split at h
  · cases h
  · rename_i hn
    omega
theorem startA_emp {k : Int} (hk : k = 1 ∨ k = 2) : (startA k ⟨#[]⟩).2 ≠ 1 := by
  unfold startA
  rw [if_neg (by omega)]
  split
  · decide
  · split
    · unfold reqA
      split
      · decide
      · split <;> decide
    · unfold stsA
      split
      · decide
      · split <;> decide
theorem linesT_mem : ∀ {ls : List (List UInt8)}, (∀ l ∈ ls, l.length + 2 ≤ (linesT ls).length) ∧ 2 * ls.length ≤ (linesT ls).length
  | [] => ⟨fun l hl => (by cases hl), by simp⟩
  | l :: ls => by
    obtain ⟨i1, i2⟩ := linesT_mem (ls := ls)
    rw [linesT_cons]
    simp only [List.length_append, List.length_cons]
    refine ⟨fun k hk => ?_, by omega⟩
    rcases List.mem_cons.1 hk with rfl | hk
    · omega
    · have := i1 k hk
      omega
theorem lineF_le (f : Fld) : f.1.size ≤ (lineF f).size ∧ f.2.size ≤ (lineF f).size := by
  have h := congrArg List.length (lineF_l f)
  rw [blen] at h
  rw [h]
  split <;> simp only [List.length_append, List.length_cons, blen] <;> omega
theorem flds_size {ls : List (List UInt8)} {fs : List Fld} (hf : fldsOk ls fs) {n : Nat} (hn : (linesT ls).length ≤ n) : ∀ f ∈ fs, f.1.size ≤ n ∧ f.2.size ≤ n := by
  obtain ⟨rfl, h⟩ := hf
  intro f hf
  obtain ⟨l, hl, rfl⟩ := List.mem_map.1 hf
  have h1 := line_size (h l hl).2.2
  have h2 := lineF_le (parseF (bOf l)).1
  have h3 := linesT_mem.1 l hl
  have h4 : (bOf l).size = l.length := rfl
  omega
abbrev z7 : List AV := [.i 0, .s ⟨#[]⟩, .s ⟨#[]⟩, .i 0, .s ⟨#[]⟩, .i 0, .nilS]
abbrev hxC (x : HX) (a : AV) : List AV := [.i x.kind, .s x.method, .s x.target, .i x.code, .s x.reason, .i x.minor, a]
abbrev hp8 (H : List (List AV)) (c : List AV) : List (List AV) := ((H ++ [z7]) ++ [z7]).set (H ++ [z7]).length c
section
attribute [local irreducible] vcApp
variable {st : St} {R : AV → St → Prop}
set_option maxHeartbeats 4000000 in
theorem hparse_a {kind : Int} {l0 : List UInt8} {ls : List (List UInt8)} {x : HX} {fs : List Fld} (h0 : cleanL l0) (hst : startA kind (bOf l0) = (x, 0)) (hf : fldsOk ls fs) (lim : Nat) (hlen : (HdT l0 ls).length ≤ lim) (hlim : lim ≤ 65536)
    (hR : wholeA x fs = 0 → ∀ row st', RowH row fs → Mv 0 (fun _ => False) st st' → R (.tup [hxA x row, .i 0]) st')
    (hE : wholeA x fs ≠ 0 → ∀ st', Mv 0 (fun _ => False) st st' → R (.tup [hxA .zero .nilS, .i (wholeA x fs)]) st') : ACalls Tryz.prog 52 [.i kind, .s (bOf (HdT l0 ls)), .i lim] st R := by
  have hmx : maxLen = 9223372036854775807 := rfl
  have hk := startA_kind hst
  have qe := start_p kind ⟨#[]⟩ (by decide)
  have hne := startA_emp hk
  have hcl : ∀ l ∈ ls, l ≠ [] ∧ cleanL l := fun l hl => ⟨(hf.2 l hl).1, (hf.2 l hl).2.1⟩
  have hix := idx_head h0 hcl
  have hsp := split_lines ls l0 h0 fun l hl => (hcl l hl).2
  have hjn := hdT_join ls l0
  obtain ⟨J, hJ⟩ : ∃ J, J = (joinL l0 ls).length := ⟨_, rfl⟩
  have hlJ : (HdT l0 ls).length = J + 4 := by rw [hjn, List.length_append, hJ]; rfl
  obtain ⟨B, hB⟩ : ∃ B, B = bOf (HdT l0 ls) := ⟨_, rfl⟩
  have hBs : B.size = J + 4 := by rw [hB, ← hlJ]; rfl
  have qi := index_p B endS (by omega)
  have hie : Lib.index B.data.toList endS.data.toList = (J : Int) := by
    rw [hB, hJ, ← hix]
    rfl
  rw [hie] at qi
  have hex : B.extract 0 J = bOf (joinL l0 ls) := by
    apply toInj
    rw [extB, hB, bOf_l, bOf_l, hjn, hJ]
    simp
  have qs := splitG_p (bOf (joinL l0 ls)) crlfS (by show (joinL l0 ls).length ≤ _; omega) (by decide)
  rw [hsp, ← hex] at qs
  have hl0 : l0.length ≤ J := by rw [hJ]; simp [joinL]
  have q0 := start_p kind (bOf l0) (by show l0.length ≤ _; omega)
  rw [hst] at q0
  have hlT : (linesT ls).length ≤ J := by
    have : (HdT l0 ls).length = l0.length + 2 + (linesT ls).length + 2 := by simp [HdT]; omega
    omega
  have hlm := linesT_mem (ls := ls)
  have hfl : fs.length = ls.length := by rw [hf.1, List.length_map]
  have hfz : ∀ f ∈ fs, f.1.size ≤ 1000000 ∧ f.2.size ≤ 1000000 := fun f hff => by
    have := flds_size hf hlT f hff
    omega
  have qw := whole_p x fs (by omega) hfz
  rw [← hB]
  generalize wholeA x fs = W at hR hE qw
  generalize hse : startA kind ⟨#[]⟩ = se at qe hne
  obtain ⟨y, e0⟩ := se
  dsimp only at qe hne
  obtain ⟨L, hL⟩ : ∃ L, L = (l0 :: ls).map bOf := ⟨_, rfl⟩
  rw [← hL] at qs
  have eL := strL_len L
  have hLl : L.length = ls.length + 1 := by rw [hL]; simp
  have hL0 : (strL L)[0]? = some [.s (bOf l0)] := by rw [hL]; rfl
  refine ACalls.of_vc T_ok mixed Tryz.func52 rfl Tryz.call52 ?_
  refine .p rfl qe ?_
  refine ⟨_, last_at _ _, ?_⟩
  refine cnd_split (fun h => absurd (by simpa using h) hne) (fun _ => ?_)
  refine .p rfl qi ?_
  refine cnd_split (fun h => absurd (of_decide_eq_true h) (by omega)) (fun _ => ?_)
  intro c hc
  rw [IntWalk.i64_in _ (by omega)] at hc
  obtain rfl : c = ((J + 4 : Nat) : Int) := by omega
  refine cnd_split (fun h => absurd (by simpa using h) (by omega)) (fun _ => ?_)
  refine ⟨J, rfl, Nat.zero_le _, by omega, ?_⟩
  refine .p rfl qs ?_
  refine ⟨0, _, rfl, hL0, ?_⟩
  refine .p rfl q0 ?_
  refine ⟨_, last_at _ _, ?_⟩
  refine ⟨1, rfl, by omega, Nat.le_refl _, ?_⟩
  have hrow : ((strL L).drop 1).take ((strL L).length - 1) = strL (ls.map bOf) := by
    rw [List.take_of_length_le (by simp), hL]
    rfl
  rw [hrow]
  have v12 : ∀ (H : List (List AV)) (c c2 : List AV), ((hp8 H c ++ [z7]).set (hp8 H c).length c2)[(hp8 H c).length]? = some c2 := fun H c c2 => last_upd _ _ _
  have lh : ∀ (H : List (List AV)) (c : List AV), (hp8 H c).length = H.length + 2 := fun H c => by simp [hp8]
  have v6 : ∀ (H : List (List AV)) (c c2 : List AV), ((hp8 H c ++ [z7]).set (hp8 H c).length c2)[H.length]? = some z7 := fun H c c2 => by
    refine st_ne (by rw [lh]; omega) (ap ?_)
    refine st_ne (by simp) (ap ?_)
    exact last_at _ _
  have m0 : ∀ (c c2 : List AV), Mv 0 (fun _ => False) st ⟨(hp8 st.heap c ++ [z7]).set (hp8 st.heap c).length c2, st.tk⟩ := fun c c2 =>
    (((((Mv.refl (Nat.zero_le _)).alloc z7).alloc z7).set (fun h => by rw [List.length_append] at h; omega) c).alloc z7).set (fun h => by rw [lh] at h; omega) c2
  refine vc_loop [66] (fun g vals st' => ∃ (j : Nat) (row : AV), j + g = ls.length ∧ vals = [.i j] ∧ st'.heap[st.heap.length]? = some z7 ∧ st'.heap[(hp8 st.heap (hxC y .nilS)).length]? = some (hxC x row) ∧ Acc 0 st'.tk 2 row (fldL (fs.take j)) ∧ Mv 0 (fun _ => False) st st') ls.length rfl ⟨0, .nilS, by omega, rfl, v6 _ _ _, v12 _ _ _, .nil, m0 _ _⟩ ?_
  clear v12 v6 m0
  rintro g vals st' ⟨j, row, hj, rfl, h6, h12, hA, m1⟩
  have hq12 := lh st.heap (hxC y .nilS)
  have hlt := lt_of h12
  have hlt6 := lt_of h6
  have hn12 := Nat.ne_of_lt hlt
  have hn6 := Nat.ne_of_lt hlt6
  have hn126 : (hp8 st.heap (hxC y .nilS)).length ≠ st.heap.length := by omega
  have hc12 : ¬ (hp8 st.heap (hxC y .nilS)).length < st.heap.length := by omega
  have hfe := fldL_len (fs.take j)
  rw [List.length_take] at hfe
  have hsn : ∀ h : j < fs.length, fldL (fs.take j) ++ [[.s fs[j].1, .s fs[j].2]] = fldL (fs.take (j + 1)) := fun h => by
    rw [List.take_succ_eq_append_getElem h, ← fldL_app]
  have hfull : j = ls.length → fldL (fs.take j) = fldL fs ∧ (fldL (fs.take j) = [] → fs = []) := fun e => by
    have e2 : fs.take j = fs := List.take_of_length_le (by omega)
    rw [e2]
    exact ⟨rfl, fun h => fldL_nil h⟩
  generalize hes : fldL (fs.take j) = es at hA hfe hsn hfull
  have hA0 := hA
  have hlL : (strL (ls.map bOf)).length = ls.length := by rw [strL_len, List.length_map]
  cases hA with
  | nil =>
    refine cnd_split (fun hd => ?_) (fun hd => ?_)
    · have hd := of_decide_eq_true hd
      have j1 : j < ls.length := by omega
      have j2 : j < fs.length := by omega
      have j3 : j < (ls.map bOf).length := by rw [List.length_map]; omega
      have hle := hlm.1 ls[j] (List.getElem_mem j1)
      have hel : (ls.map bOf)[j] = bOf ls[j] := List.getElem_map _
      have hfj : fs[j] = (parseF (bOf ls[j])).1 := by simp [hf.1]
      have hp := fparse_p (ls.map bOf)[j] (by rw [hel]; show ls[j].length ≤ _; omega)
      rw [hel, ← hfj, (hf.2 ls[j] (List.getElem_mem j1)).2.2] at hp
      refine ⟨j, _, rfl, strL_at j3, ?_⟩
      rw [hel]
      refine .p rfl hp ?_
      refine ⟨_, last_at _ _, ?_⟩
      refine ⟨_, st_ne hn12.symm (ap h12), ?_⟩
      refine ⟨_, last_upd _ _ _, ?_⟩
      refine Acc.appK (i := ti73) hA0 (List.cons_ne_nil _ _) ?_ ?_ (fun t e tk' q0 q1 q2 q3 => ?_)
      · show (List.length _ + 1) * 32 ≤ _; omega
      · show List.length _ + 1 ≤ _; omega
      refine ⟨_, st_ne hn12.symm (ap h12), ?_⟩
      intro c hc
      rw [IntWalk.i64_in _ (by omega)] at hc
      obtain rfl : c = ((j + 1 : Nat) : Int) := by omega
      refine ⟨g - 1, by omega, j + 1, _, by omega, rfl, st_ne hn126 (st_ne hn6.symm (ap h6)), st_eq (st_ne hn12.symm (ap h12)), ?_, (((m1.alloc _).set (fun h => by have := m1.len; omega) _).tks (Nat.zero_le _) (fun t ht => absurd ht (Nat.not_lt_zero _))).set (fun h => hc12 h) _⟩
      rw [← hsn j2]
      exact .own _ _ _ (Nat.zero_le _) q0
    · have hd := of_decide_eq_false hd
      have he : j = ls.length := by omega
      have hrH : RowH .nilS fs := (.inl ⟨rfl, (hfull he).2 rfl⟩)
      refine ⟨_, h12, ?_⟩
      refine .w (args' := [hxA x (.sl .no 2 (fldL fs))]) rfl ⟨hx_arg x hrH, trivial⟩ qw ?_
      refine cnd_split (fun h => ?_) (fun h => ?_)
      · have h := bne_iff_ne.1 h
        refine ⟨_, h6, ?_⟩
        refine ⟨_, st_eq h6, ?_⟩
        exact hE h _ (m1.set (fun h => by omega) _)
      · have h := bne_eq_false_iff_eq.1 h
        refine ⟨_, h12, ?_⟩
        refine ⟨_, h6, ?_⟩
        refine ⟨_, st_eq h6, ?_⟩
        exact hR h _ _ hrH (m1.set (fun h => by omega) _)
  | own t0 e00 es hn0 ht0 =>
    refine cnd_split (fun hd => ?_) (fun hd => ?_)
    · have hd := of_decide_eq_true hd
      have j1 : j < ls.length := by omega
      have j2 : j < fs.length := by omega
      have j3 : j < (ls.map bOf).length := by rw [List.length_map]; omega
      have hle := hlm.1 ls[j] (List.getElem_mem j1)
      have hel : (ls.map bOf)[j] = bOf ls[j] := List.getElem_map _
      have hfj : fs[j] = (parseF (bOf ls[j])).1 := by simp [hf.1]
      have hp := fparse_p (ls.map bOf)[j] (by rw [hel]; show ls[j].length ≤ _; omega)
      rw [hel, ← hfj, (hf.2 ls[j] (List.getElem_mem j1)).2.2] at hp
      refine ⟨j, _, rfl, strL_at j3, ?_⟩
      rw [hel]
      refine .p rfl hp ?_
      refine ⟨_, last_at _ _, ?_⟩
      refine ⟨_, st_ne hn12.symm (ap h12), ?_⟩
      refine ⟨_, last_upd _ _ _, ?_⟩
      refine Acc.appK (i := ti73) hA0 (List.cons_ne_nil _ _) ?_ ?_ (fun t e tk' q0 q1 q2 q3 => ?_)
      · show (List.length _ + 1) * 32 ≤ _; omega
      · show List.length _ + 1 ≤ _; omega
      refine ⟨_, st_ne hn12.symm (ap h12), ?_⟩
      intro c hc
      rw [IntWalk.i64_in _ (by omega)] at hc
      obtain rfl : c = ((j + 1 : Nat) : Int) := by omega
      refine ⟨g - 1, by omega, j + 1, _, by omega, rfl, st_ne hn126 (st_ne hn6.symm (ap h6)), st_eq (st_ne hn12.symm (ap h12)), ?_, (((m1.alloc _).set (fun h => by have := m1.len; omega) _).tks (Nat.zero_le _) (fun t ht => absurd ht (Nat.not_lt_zero _))).set (fun h => hc12 h) _⟩
      rw [← hsn j2]
      exact .own _ _ _ (Nat.zero_le _) q0
    · have hd := of_decide_eq_false hd
      have he : j = ls.length := by omega
      have hrH : RowH (.sl (.own t0 e00) 2 es) fs := (.inr (.inr (.inr ⟨t0, e00, by rw [(hfull he).1]⟩)))
      refine ⟨_, h12, ?_⟩
      refine .w (args' := [hxA x (.sl .no 2 (fldL fs))]) rfl ⟨hx_arg x hrH, trivial⟩ qw ?_
      refine cnd_split (fun h => ?_) (fun h => ?_)
      · have h := bne_iff_ne.1 h
        refine ⟨_, h6, ?_⟩
        refine ⟨_, st_eq h6, ?_⟩
        exact hE h _ (m1.set (fun h => by omega) _)
      · have h := bne_eq_false_iff_eq.1 h
        refine ⟨_, h12, ?_⟩
        refine ⟨_, h6, ?_⟩
        refine ⟨_, st_eq h6, ?_⟩
        exact hR h _ _ hrH (m1.set (fun h => by omega) _)
end
end Go.Proofs.YthnmbfiandpedaaGreatDoor
