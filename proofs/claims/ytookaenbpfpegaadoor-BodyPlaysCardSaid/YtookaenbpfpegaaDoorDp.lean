/- Bodies in chunks, byte by byte, in plain words. No statement of its own. -/
import Derived.Test.YtookaenbpfpegaaDoorLa
set_option linter.unusedSimpArgs false
set_option linter.unusedVariables false
set_option maxRecDepth 100000
namespace Go.Proofs.YtookaenbpfpegaaDoor
open Go.RowKit
def toB (l : List UInt8) : ByteArray := ⟨l.toArray⟩
theorem toB_l (l : List UInt8) : (toB l).data.toList = l := by unfold toB; show l.toArray.toList = l; rw [List.toList_toArray]
theorem toB_s (s : ByteArray) : toB s.data.toList = s := by unfold toB; simp
theorem toB_size (l : List UInt8) : (toB l).size = l.length := by unfold toB; show l.toArray.size = _; rw [List.size_toArray]
/-- where a body in chunks stands -/
structure Dc where
  a : Nat
  line : List UInt8
  left : Nat
  sum : Nat
  spent : Nat
  tr : List Fld
def Dc.new : Dc := ⟨0, [], 0, 0, 0, []⟩
def Dc.shut (d : Dc) : Dc := { d with a := 4, line := [] }
def sizeD (d : Dc) (s : ByteArray) : Dc × Int :=
  if (parseC s).2.2 ≠ 0 then (d, (parseC s).2.2) else if (mostB : Int) - d.sum < (parseC s).1 then (d, 7) else if (parseC s).1 = 0 then ({ d with a := 3 }, 0)
  else ({ d with a := 1, left := (parseC s).1.toNat, sum := d.sum + (parseC s).1.toNat }, 0)
def trailD (d : Dc) (s : ByteArray) : Dc × Bool × Int :=
  if s.size = 0 then (d, true, 0) else if (parseF s).2 ≠ 0 then (d, false, (parseF s).2) else if 100 ≤ d.tr.length then (d, false, 3) else ({ d with tr := d.tr ++ [(parseF s).1] }, false, 0)
def endD (d : Dc) (s : ByteArray) : Dc × Bool × Int := if d.a = 0 then ((sizeD d s).1, false, (sizeD d s).2) else trailD d s
def linedD (L : Nat) (d : Dc) (b : UInt8) : Dc × Bool × Int :=
  if 4098 ≤ d.line.length ∨ L < d.spent then (d, false, 3) else if decide (b = 10) ≠ decide (d.line.getLast? = some 13) then (d, false, 24)
  else if b ≠ 10 then ({ d with line := d.line ++ [b] }, false, 0) else endD { d with line := [] } (toB d.line.dropLast)
def Dc.spend (d : Dc) : Dc := if d.a = 3 then { d with spent := d.spent + 1 } else d
def stepD (L : Nat) (d : Dc) (b : UInt8) : Dc × List UInt8 × Bool × Int :=
  if d.a = 1 then (if d.left = 1 then { d with a := 2, left := 2 } else { d with left := d.left - 1 }, [b], false, 0)
  else if d.a = 2 then (if b ≠ (if d.left = 1 then 10 else 13) then (d, [], false, 31) else (if d.left = 1 then { d with a := 0, left := 0 } else { d with left := d.left - 1 }, [], false, 0))
  else ((linedD L d.spend b).1, [], (linedD L d.spend b).2.1, (linedD L d.spend b).2.2)
/-- bytes taken, data, done, an error, where it stands -/
structure Rs where
  n : Nat
  o : List UInt8
  dn : Bool
  e : Int
  d : Dc
def Rs.more (r : Rs) (k : Nat) (o : List UInt8) : Rs := ⟨r.n + k, o ++ r.o, r.dn, r.e, r.d⟩
def Rs.fin (r : Rs) : Prop := r.dn = true ∨ r.e ≠ 0
def runD (L : Nat) : Dc → List UInt8 → Rs
  | d, [] => ⟨0, [], false, 0, d⟩
  | d, b :: r => if (stepD L d b).2.2.1 = true ∨ (stepD L d b).2.2.2 ≠ 0 then ⟨1, (stepD L d b).2.1, (stepD L d b).2.2.1, (stepD L d b).2.2.2, (stepD L d b).1.shut⟩ else (runD L (stepD L d b).1 r).more 1 (stepD L d b).2.1
theorem Rs.more_more (r : Rs) (j k : Nat) (p q : List UInt8) : (r.more j p).more k q = r.more (j + k) (q ++ p) := by
  unfold Rs.more; simp [Nat.add_assoc]
theorem Rs.more_zero (r : Rs) : r.more 0 [] = r := by unfold Rs.more; simp
theorem runD_stop {L : Nat} {d : Dc} {b : UInt8} {r : List UInt8} {d' : Dc} {o : List UInt8} {dn : Bool} {e : Int} (h : stepD L d b = (d', o, dn, e)) (hf : dn = true ∨ e ≠ 0) : runD L d (b :: r) = ⟨1, o, dn, e, d'.shut⟩ := by
  rw [runD, h]; exact if_pos hf
theorem runD_go {L : Nat} {d : Dc} {b : UInt8} {r : List UInt8} {d' : Dc} {o : List UInt8} (h : stepD L d b = (d', o, false, 0)) : runD L d (b :: r) = (runD L d' r).more 1 o := by
  rw [runD, h]; exact if_neg (fun h => h.elim (fun h => by cases h) (fun h => h rfl))
theorem runD_app {L : Nat} : ∀ (x y : List UInt8) (d : Dc), (runD L d x).dn = false → (runD L d x).e = 0 → (runD L d x).n = x.length ∧ runD L d (x ++ y) = (runD L (runD L d x).d y).more x.length (runD L d x).o
  | [], y, d, _, _ => ⟨rfl, (Rs.more_zero _).symm⟩
  | b :: r, y, d, h1, h2 => by
    obtain ⟨d', o, dn, e, hs⟩ : ∃ d' o dn e, stepD L d b = (d', o, dn, e) := ⟨_, _, _, _, rfl⟩
    by_cases hf : dn = true ∨ e ≠ 0
    · rw [runD_stop hs hf] at h1 h2
      exact absurd hf (fun h => h.elim (fun h => by rw [h] at h1; cases h1) (fun h => h h2))
    · have hdn : dn = false := by cases dn with | false => rfl | true => exact absurd (.inl rfl) hf
      have he : e = 0 := Decidable.byContradiction fun h => hf (.inr h)
      subst hdn he
      rw [runD_go hs] at h1 h2 ⊢
      obtain ⟨i1, i2⟩ := runD_app r y d' h1 h2
      rw [List.cons_append, runD_go hs, i2, Rs.more_more]
      exact ⟨by show (runD L d' r).n + 1 = _; rw [i1]; rfl, by show Rs.more _ _ _ = Rs.more _ _ _; rfl⟩
theorem runD_fin {L : Nat} : ∀ (x y : List UInt8) (d : Dc), (runD L d x).dn = true ∨ (runD L d x).e ≠ 0 → runD L d (x ++ y) = runD L d x ∧ (runD L d x).n ≤ x.length ∧ 1 ≤ (runD L d x).n
  | [], y, d, h => h.elim (fun h => by cases h) (fun h => absurd rfl h)
  | b :: r, y, d, h => by
    obtain ⟨d', o, dn, e, hs⟩ : ∃ d' o dn e, stepD L d b = (d', o, dn, e) := ⟨_, _, _, _, rfl⟩
    by_cases hf : dn = true ∨ e ≠ 0
    · rw [List.cons_append, runD_stop hs hf, runD_stop hs hf]
      exact ⟨rfl, by simp, Nat.le_refl _⟩
    · have hdn : dn = false := by cases dn with | false => rfl | true => exact absurd (.inl rfl) hf
      have he : e = 0 := Decidable.byContradiction fun h => hf (.inr h)
      subst hdn he
      rw [runD_go hs] at h
      obtain ⟨i1, i2, i3⟩ := runD_fin r y d' h
      rw [List.cons_append, runD_go hs, runD_go hs, i1]
      refine ⟨rfl, ?_, ?_⟩
      · show (runD L d' r).n + 1 ≤ _; simp; exact i2
      · show 1 ≤ (runD L d' r).n + 1; omega
/-- data at once -/
def Dc.took (d : Dc) (k : Nat) : Dc := if k = d.left then { d with a := 2, left := 2 } else { d with left := d.left - k }
theorem runD_data {L : Nat} : ∀ (k : Nat) (d : Dc) (l : List UInt8), d.a = 1 → k < d.left → k < l.length → runD L d l = (runD L (d.took (k + 1)) (l.drop (k + 1))).more (k + 1) (l.take (k + 1))
  | 0, d, [], _, _, hl => by simp at hl
  | 0, d, b :: r, ha, hk, hl => by
    have hs : stepD L d b = (d.took 1, [b], false, 0) := by
      unfold stepD Dc.took
      rw [if_pos ha]
      by_cases h : d.left = 1
      · rw [if_pos h, if_pos h.symm]
      · rw [if_neg h, if_neg (fun e => h e.symm)]
    rw [runD_go hs]
    rfl
  | k + 1, d, [], _, _, hl => by simp at hl
  | k + 1, d, b :: r, ha, hk, hl => by
    have hs : stepD L d b = ({ d with left := d.left - 1 }, [b], false, 0) := by
      unfold stepD
      rw [if_pos ha, if_neg (by omega)]
    have ht : ({ d with left := d.left - 1 } : Dc).took (k + 1) = d.took (k + 1 + 1) := by
      unfold Dc.took
      by_cases h : k + 1 + 1 = d.left
      · rw [if_pos h, if_pos (show k + 1 = d.left - 1 by omega)]
      · rw [if_neg h, if_neg (show ¬ k + 1 = d.left - 1 by omega)]
        show ({ d with left := d.left - 1 - (k + 1) } : Dc) = _
        rw [show d.left - 1 - (k + 1) = d.left - (k + 1 + 1) by omega]
    rw [runD_go hs, runD_data k { d with left := d.left - 1 } r ha (by show k < d.left - 1; omega) (by simpa using hl), ht, Rs.more_more]
    rfl
theorem runD_all {L : Nat} {d : Dc} {l : List UInt8} (ha : d.a = 1) (h : l.length < d.left) : runD L d l = ⟨l.length, l, false, 0, { d with left := d.left - l.length }⟩ := by
  cases hl : l.length with
  | zero =>
    rw [List.eq_nil_of_length_eq_zero hl]
    rfl
  | succ k =>
    rw [runD_data k d l ha (by omega) (by omega), List.drop_of_length_le (by omega), List.take_of_length_le (by omega)]
    unfold Dc.took
    rw [if_neg (by omega)]
    unfold runD Rs.more
    simp
/-- what ends a chunk -/
theorem runD_crlf {L : Nat} {d : Dc} (r : List UInt8) (ha : d.a = 2) (hl : d.left = 2) : runD L d (13 :: 10 :: r) = (runD L { d with a := 0, left := 0 } r).more 2 [] := by
  have h1 : stepD L d 13 = ({ d with left := 1 }, [], false, 0) := by
    unfold stepD
    rw [if_neg (by omega), if_pos ha, if_neg (by rw [if_neg (by omega)]; exact fun h => h rfl), if_neg (by omega), hl]
  have h2 : stepD L { d with left := 1 } 10 = ({ d with a := 0, left := 0 }, [], false, 0) := by
    unfold stepD
    rw [if_neg (by show ¬ d.a = 1; omega), if_pos ha, if_neg (by rw [if_pos rfl]; exact fun h => h rfl), if_pos rfl]
  rw [runD_go h1, runD_go h2, Rs.more_more]
  rfl
/-- a line's bytes -/
def Dc.put (d : Dc) (l : List UInt8) : Dc := { d with line := d.line ++ l, spent := if d.a = 3 then d.spent + l.length else d.spent }
theorem Dc.put_nil (d : Dc) : d.put [] = d := by unfold Dc.put; cases d; simp
theorem Dc.put_a (d : Dc) (l : List UInt8) : (d.put l).a = d.a := rfl
theorem Dc.put_put (d : Dc) (l m : List UInt8) : (d.put l).put m = d.put (l ++ m) := by
  unfold Dc.put
  cases d
  simp only [List.append_assoc, List.length_append, Dc.mk.injEq, true_and, and_true]
  split <;> omega
/-- a byte of a line: it goes on -/
theorem stepD_on {L : Nat} {d : Dc} {b : UInt8} (ha : d.a = 0 ∨ d.a = 3) (h1 : d.line.length < 4098) (h2 : d.spend.spent ≤ L) (h3 : d.line.getLast? ≠ some 13) (h4 : b ≠ 10) : stepD L d b = (d.put [b], [], false, 0) := by
  have e0 : d.spend.line = d.line := by unfold Dc.spend; split <;> rfl
  have e1 : linedD L d.spend b = ({ d.spend with line := d.line ++ [b] }, false, 0) := by
    unfold linedD
    rw [e0, if_neg (by omega), if_neg (by rw [decide_eq_false h4, decide_eq_false h3]; exact fun h => h rfl), if_pos h4]
  unfold stepD
  rw [if_neg (by omega), if_neg (by omega), e1]
  unfold Dc.put Dc.spend
  by_cases h : d.a = 3
  · rw [if_pos h, if_pos h]; rfl
  · rw [if_neg h, if_neg h]
/-- .. it is too long -/
theorem stepD_long {L : Nat} {d : Dc} {b : UInt8} (ha : d.a = 0 ∨ d.a = 3) (h : 4098 ≤ d.line.length ∨ L < d.spend.spent) : stepD L d b = (d.spend, [], false, 3) := by
  have e0 : d.spend.line = d.line := by unfold Dc.spend; split <;> rfl
  have e1 : linedD L d.spend b = (d.spend, false, 3) := by
    unfold linedD
    rw [e0, if_pos h]
  unfold stepD
  rw [if_neg (by omega), if_neg (by omega), e1]
/-- .. it is bare -/
theorem stepD_bare {L : Nat} {d : Dc} {b : UInt8} (ha : d.a = 0 ∨ d.a = 3) (h1 : d.line.length < 4098) (h2 : d.spend.spent ≤ L) (h3 : decide (b = 10) ≠ decide (d.line.getLast? = some 13)) : stepD L d b = (d.spend, [], false, 24) := by
  have e0 : d.spend.line = d.line := by unfold Dc.spend; split <;> rfl
  have e1 : linedD L d.spend b = (d.spend, false, 24) := by
    unfold linedD
    rw [e0, if_neg (by omega), if_pos h3]
  unfold stepD
  rw [if_neg (by omega), if_neg (by omega), e1]
/-- .. it ends the line -/
def Dc.ends (d : Dc) : Dc × Bool × Int := endD { d.spend with line := [] } (toB d.line.dropLast)
theorem stepD_end {L : Nat} {d : Dc} (ha : d.a = 0 ∨ d.a = 3) (h1 : d.line.length < 4098) (h2 : d.spend.spent ≤ L) (h3 : d.line.getLast? = some 13) : stepD L d 10 = (d.ends.1, [], d.ends.2.1, d.ends.2.2) := by
  have e0 : d.spend.line = d.line := by unfold Dc.spend; split <;> rfl
  have e1 : linedD L d.spend 10 = d.ends := by
    unfold linedD Dc.ends
    rw [e0, if_neg (by omega), if_neg (by rw [decide_eq_true rfl, decide_eq_true h3]; exact fun h => h rfl), if_neg (fun h => h rfl)]
  unfold stepD
  rw [if_neg (by omega), if_neg (by omega), e1]
theorem spend_put {d : Dc} (l : List UInt8) : (d.put l).spend.spent = if d.a = 3 then d.spent + l.length + 1 else d.spent := by
  unfold Dc.put Dc.spend
  by_cases h : d.a = 3
  · simp [h]
  · simp [h]
/-- a line: how many bytes it has with its end, at how many it is wrong, and why -/
def readW (lim : Option Nat) : Nat → Bool → List UInt8 → Nat × Nat × Nat
  | _, _, [] => (0, 0, 0)
  | k, cr, b :: r => if 4098 ≤ k ∨ (∃ m, lim = some m ∧ m < k + 1) then (0, k + 1, 3) else if decide (b = 10) ≠ cr then (0, k + 1, 24) else if b = 10 then (k + 1, 0, 0) else readW lim (k + 1) (decide (b = 13)) r
theorem getLast_snoc (l : List UInt8) (b : UInt8) : decide ((l ++ [b]).getLast? = some 13) = decide (b = 13) := by
  rw [List.getLast?_append]; simp
def limD (L : Nat) (d : Dc) : Option Nat := if d.a = 3 then some (L - d.spent) else none
theorem lim_iff {L : Nat} {d : Dc} (hs : d.spent ≤ L) (cur : List UInt8) : (∃ m, limD L d = some m ∧ m < cur.length + 1) ↔ L < (d.put cur).spend.spent := by
  rw [spend_put]
  unfold limD
  by_cases h : d.a = 3
  · rw [if_pos h, if_pos h]
    constructor
    · rintro ⟨m, e, hm⟩
      have := Option.some.inj e
      omega
    · intro h
      exact ⟨_, rfl, by omega⟩
  · rw [if_neg h, if_neg h]
    constructor
    · rintro ⟨m, e, _⟩; cases e
    · intro h; omega
theorem readW_run {L : Nat} {d : Dc} (ha : d.a = 0 ∨ d.a = 3) (hl : d.line = []) (hs : d.spent ≤ L) : ∀ (r cur : List UInt8),
    (∃ B E X, readW (limD L d) cur.length (decide (cur.getLast? = some 13)) r = (0, B, E) ∧ cur.length < B ∧ B ≤ cur.length + r.length ∧ E ≠ 0 ∧ runD L (d.put cur) r = ⟨B - cur.length, [], false, (E : Int), X⟩ ∧ X.line = [] ∧ X.tr = d.tr) ∨
    (readW (limD L d) cur.length (decide (cur.getLast? = some 13)) r = (0, 0, 0) ∧ runD L (d.put cur) r = ⟨r.length, [], false, 0, d.put (cur ++ r)⟩) ∨
    (∃ u rest, readW (limD L d) cur.length (decide (cur.getLast? = some 13)) r = (cur.length + u.length + 1, 0, 0) ∧ r = u ++ 10 :: rest ∧ (cur ++ u).getLast? = some 13 ∧
      runD L (d.put cur) r = (runD L (d.put (cur ++ u)) (10 :: rest)).more u.length [] ∧ stepD L (d.put (cur ++ u)) 10 = ((d.put (cur ++ u)).ends.1, [], (d.put (cur ++ u)).ends.2.1, (d.put (cur ++ u)).ends.2.2))
  | [], cur => .inr (.inl ⟨rfl, by rw [List.append_nil]; rfl⟩)
  | b :: r, cur => by
    have hln : (d.put cur).line = cur := by unfold Dc.put; simp [hl]
    have ha' : (d.put cur).a = 0 ∨ (d.put cur).a = 3 := ha
    have htr : (d.put cur).spend.shut.tr = d.tr := by unfold Dc.shut Dc.spend; split <;> rfl
    by_cases h1 : 4098 ≤ cur.length ∨ L < (d.put cur).spend.spent
    · left
      refine ⟨cur.length + 1, 3, (d.put cur).spend.shut, ?_, by omega, by simp, by omega, ?_, rfl, htr⟩
      · rw [readW, if_pos (h1.imp id (lim_iff hs cur).2)]
      · rw [runD_stop (stepD_long ha' (by rw [hln]; exact h1)) (.inr (by decide)), show cur.length + 1 - cur.length = 1 by omega]
        rfl
    have h1' : ¬ (4098 ≤ cur.length ∨ ∃ m, limD L d = some m ∧ m < cur.length + 1) := fun h => h1 (h.imp id (lim_iff hs cur).1)
    have hlt : (d.put cur).line.length < 4098 := by rw [hln]; omega
    have hsp : (d.put cur).spend.spent ≤ L := by omega
    by_cases h2 : decide (b = 10) ≠ decide (cur.getLast? = some 13)
    · left
      refine ⟨cur.length + 1, 24, (d.put cur).spend.shut, ?_, by omega, by simp, by omega, ?_, rfl, htr⟩
      · rw [readW, if_neg h1', if_pos h2]
      · rw [runD_stop (stepD_bare ha' hlt hsp (by rw [hln]; exact h2)) (.inr (by decide)), show cur.length + 1 - cur.length = 1 by omega]
        rfl
    have h2' : decide (b = 10) = decide (cur.getLast? = some 13) := Decidable.not_not.1 h2
    by_cases h3 : b = 10
    · subst h3
      have hg : cur.getLast? = some 13 := by
        rw [decide_eq_true rfl] at h2'
        exact of_decide_eq_true h2'.symm
      right; right
      refine ⟨[], r, ?_, rfl, by rw [List.append_nil]; exact hg, ?_, ?_⟩
      · rw [readW, if_neg h1', if_neg h2, if_pos rfl]; rfl
      · rw [List.append_nil]; exact (Rs.more_zero _).symm
      · rw [List.append_nil]; exact stepD_end ha' hlt hsp (by rw [hln]; exact hg)
    · have hg : cur.getLast? ≠ some 13 := fun e => by rw [decide_eq_false h3, decide_eq_true e] at h2'; cases h2'
      have hst := stepD_on ha' hlt hsp (by rw [hln]; exact hg) h3
      have hrd : readW (limD L d) cur.length (decide (cur.getLast? = some 13)) (b :: r) = readW (limD L d) (cur ++ [b]).length (decide ((cur ++ [b]).getLast? = some 13)) r := by
        rw [readW, if_neg h1', if_neg h2, if_neg h3, getLast_snoc, List.length_append]
        rfl
      rw [hrd, runD_go hst, Dc.put_put]
      have hcl : (cur ++ [b]).length = cur.length + 1 := by simp
      rcases readW_run ha hl hs r (cur ++ [b]) with ⟨B, E, X, q1, q2, q3, q4, q5, q6, q7⟩ | ⟨q1, q2⟩ | ⟨u, rest, q1, q2, q3, q4, q5⟩
      · left
        refine ⟨B, E, X, q1, by omega, by simp; omega, q4, ?_, q6, q7⟩
        rw [q5]
        unfold Rs.more
        simp only [List.nil_append, Rs.mk.injEq, and_self, and_true]
        omega
      · right; left
        refine ⟨q1, ?_⟩
        rw [q2]
        unfold Rs.more
        simp
      · right; right
        refine ⟨b :: u, rest, ?_, by rw [q2]; rfl, by rw [← q3]; simp, ?_, ?_⟩
        · rw [q1, hcl]; simp; omega
        · rw [q4, Rs.more_more, List.append_assoc]
          rfl
        · have e : cur ++ b :: u = cur ++ [b] ++ u := by simp
          rw [e]; exact q5
/-- behind a line of so many bytes -/
def Dc.next (d : Dc) (n : Nat) : Dc := { d with line := [], spent := if d.a = 3 then d.spent + n else d.spent }
theorem ends_put {d : Dc} (u : List UInt8) (hl : d.line = []) : (d.put u).ends = endD (d.next (u.length + 1)) (toB u.dropLast) := by
  have e1 : (d.put u).line = u := by unfold Dc.put; simp [hl]
  unfold Dc.ends
  rw [e1]
  congr 1
  unfold Dc.put Dc.spend Dc.next
  by_cases h : d.a = 3
  · simp [h]; omega
  · simp [h]
/-- a line, from its beginning -/
theorem line_run {L : Nat} {d : Dc} (ha : d.a = 0 ∨ d.a = 3) (hl : d.line = []) (hs : d.spent ≤ L) (r : List UInt8) :
    (∃ B E X, readW (limD L d) 0 false r = (0, B, E) ∧ 0 < B ∧ B ≤ r.length ∧ E ≠ 0 ∧ runD L d r = ⟨B, [], false, (E : Int), X⟩ ∧ X.line = [] ∧ X.tr = d.tr) ∨
    (readW (limD L d) 0 false r = (0, 0, 0) ∧ runD L d r = ⟨r.length, [], false, 0, d.put r⟩) ∨
    (∃ N, readW (limD L d) 0 false r = (N, 0, 0) ∧ 2 ≤ N ∧ N ≤ r.length ∧
      (let x := endD (d.next N) (toB (r.take (N - 2))); runD L d r = if x.2.1 = true ∨ x.2.2 ≠ 0 then ⟨N, [], x.2.1, x.2.2, x.1.shut⟩ else (runD L x.1 (r.drop N)).more N [])) := by
  have h := readW_run ha hl hs r []
  rw [Dc.put_nil] at h
  have e0 : decide (([] : List UInt8).getLast? = some 13) = false := rfl
  rw [e0] at h
  simp only [List.length_nil, List.nil_append, Nat.zero_add, Nat.sub_zero] at h
  rcases h with h | h | ⟨u, rest, q1, q2, q3, q4, q5⟩
  · exact .inl h
  · exact .inr (.inl h)
  · right; right
    have hu1 : 1 ≤ u.length := by
      cases u with
      | nil => cases q3
      | cons a b => simp
    refine ⟨u.length + 1, q1, by omega, by rw [q2]; simp, ?_⟩
    have e1 : toB (r.take (u.length + 1 - 2)) = toB u.dropLast := by
      rw [q2, List.dropLast_eq_take, show u.length + 1 - 2 = u.length - 1 by omega, List.take_append_of_le_length (by omega)]
    have e2 : r.drop (u.length + 1) = rest := by
      rw [q2, List.drop_append, List.drop_of_length_le (by omega)]; simp
    rw [q4]
    rw [ends_put u hl] at q5
    simp only [e1, e2]
    split
    · rename_i hf
      rw [runD_stop q5 hf]
      unfold Rs.more
      simp [Nat.add_comm]
    · rename_i hf
      have hdn : (endD (d.next (u.length + 1)) (toB u.dropLast)).2.1 = false := by
        cases hx : (endD (d.next (u.length + 1)) (toB u.dropLast)).2.1 with
        | false => rfl
        | true => exact absurd (.inl hx) hf
      have he : (endD (d.next (u.length + 1)) (toB u.dropLast)).2.2 = 0 := Decidable.byContradiction fun h => hf (.inr h)
      rw [hdn, he] at q5
      rw [runD_go q5, Rs.more_more, Nat.add_comm 1]
      rfl
/-- a line without 10 and 13 in it -/
theorem plain_run {L : Nat} {d : Dc} (ha : d.a = 0 ∨ d.a = 3) : ∀ (u cur r : List UInt8), d.line = [] → (∀ b ∈ cur ++ u, b ≠ 10 ∧ b ≠ 13) → (cur ++ u).length ≤ 4090 → d.spent + (cur ++ u).length + 2 ≤ L →
    runD L (d.put cur) (u ++ 13 :: 10 :: r) = (let x := endD (d.next ((cur ++ u).length + 2)) (toB (cur ++ u)); if x.2.1 = true ∨ x.2.2 ≠ 0 then ⟨u.length + 2, [], x.2.1, x.2.2, x.1.shut⟩ else (runD L x.1 r).more (u.length + 2) [])
  | [], cur, r, hl, hb, hn, hs => by
    rw [List.append_nil] at hb hn hs ⊢
    have hln : (d.put cur).line = cur := by unfold Dc.put; simp [hl]
    have ha' : (d.put cur).a = 0 ∨ (d.put cur).a = 3 := ha
    have hsp := spend_put (d := d) cur
    have hg : cur.getLast? ≠ some 13 := fun e => (hb _ (List.mem_of_getLast? e)).2 rfl
    have s1 : stepD L (d.put cur) 13 = ((d.put cur).put [13], [], false, 0) := stepD_on ha' (by rw [hln]; omega) (by rw [hsp]; split <;> omega) (by rw [hln]; exact hg) (by decide)
    rw [Dc.put_put] at s1
    have hln2 : (d.put (cur ++ [13])).line = cur ++ [13] := by unfold Dc.put; simp [hl]
    have hsp2 := spend_put (d := d) (cur ++ [13])
    have hc2 : (cur ++ [(13 : UInt8)]).length = cur.length + 1 := by simp
    have s2 : stepD L (d.put (cur ++ [13])) 10 = _ := stepD_end (d := d.put (cur ++ [13])) ha (by rw [hln2, hc2]; omega) (by rw [hsp2, hc2]; split <;> omega) (by rw [hln2, List.getLast?_append]; rfl)
    rw [ends_put _ hl, hc2, List.dropLast_concat] at s2
    rw [List.nil_append, runD_go s1]
    dsimp only
    split
    · rename_i hf
      rw [runD_stop s2 hf]
      rfl
    · rename_i hf
      have hdn : (endD (d.next (cur.length + 1 + 1)) (toB cur)).2.1 = false := by
        cases hx : (endD (d.next (cur.length + 1 + 1)) (toB cur)).2.1 with
        | false => rfl
        | true => exact absurd (.inl hx) hf
      have he : (endD (d.next (cur.length + 1 + 1)) (toB cur)).2.2 = 0 := Decidable.byContradiction fun h => hf (.inr h)
      rw [hdn, he] at s2
      rw [runD_go s2, Rs.more_more]
      rfl
  | b :: u, cur, r, hl, hb, hn, hs => by
    have hln : (d.put cur).line = cur := by unfold Dc.put; simp [hl]
    have ha' : (d.put cur).a = 0 ∨ (d.put cur).a = 3 := ha
    have hsp := spend_put (d := d) cur
    rw [List.length_append, List.length_cons] at hn hs
    have hg : cur.getLast? ≠ some 13 := fun e => (hb _ (List.mem_append.2 (.inl (List.mem_of_getLast? e)))).2 rfl
    have s1 : stepD L (d.put cur) b = ((d.put cur).put [b], [], false, 0) := stepD_on ha' (by rw [hln]; omega) (by rw [hsp]; split <;> omega) (by rw [hln]; exact hg) (hb b (by simp)).1
    rw [Dc.put_put] at s1
    have e : cur ++ b :: u = cur ++ [b] ++ u := by simp
    have ih := plain_run ha u (cur ++ [b]) r hl (by rw [← e]; exact hb) (by rw [← e]; simp; omega) (by rw [← e]; simp; omega)
    rw [← e] at ih
    rw [List.cons_append, runD_go s1, ih]
    dsimp only
    by_cases hf : (endD (d.next ((cur ++ b :: u).length + 2)) (toB (cur ++ b :: u))).2.1 = true ∨ (endD (d.next ((cur ++ b :: u).length + 2)) (toB (cur ++ b :: u))).2.2 ≠ 0
    · rw [if_pos hf, if_pos hf]
      rfl
    · rw [if_neg hf, if_neg hf, Rs.more_more]
      rfl
end Go.Proofs.YtookaenbpfpegaaDoor
