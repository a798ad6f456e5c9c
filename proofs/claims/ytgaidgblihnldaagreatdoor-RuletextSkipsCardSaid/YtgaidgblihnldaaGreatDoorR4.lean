/- Lines of rules, as the document reads them: the rule of the words. No statement of its own. -/
import Derived.Test.YtgaidgblihnldaaGreatDoorR3
import Derived.Test.YtgaidgblihnldaaGreatDoorTmC
set_option linter.unusedSimpArgs false
set_option linter.unusedVariables false
set_option maxRecDepth 100000
namespace Go.Proofs.YtgaidgblihnldaaGreatDoor
open Go.RowKit
def shapeB (l : List Wd) (want : ByteArray) : Bool := decide (l.map (fun w => w.2) = want.data.toList.map fun b => ((b.toNat : Int) == 118))
theorem shape33_p (l : List Wd) (want : ByteArray) (hl : l.length ≤ 1000000) (hw : want.size ≤ 1000) : APure Tryz.prog 86 [.sl .no 2 (wdL l), .s want] (.b (shapeB l want)) [] := by
  have el := wdL_len l
  have wl := blen want
  refine APure.of rfl (ACalls.of_vc T_ok mixed Tryz.func86 rfl Tryz.call86 ?_)
  refine cnd_split (fun h0 => ?_) (fun h0 => ?_)
  · have h0 : l.length ≠ want.size := by
      have : ((wdL l).length : Int) ≠ want.size := by simpa using h0
      omega
    refine retb (decide_eq_false (fun e => h0 ?_)).symm
    have := congrArg List.length e
    simp only [List.length_map] at this
    omega
  have h0 : l.length = want.size := by
    have : ((wdL l).length : Int) = want.size := by simpa using h0
    omega
  refine vc_loop [5] (fun g vals st' => ∃ k : Nat, k + g = want.size ∧ vals = [.i k] ∧ ∀ j (hj : j < l.length) (hj2 : j < want.size), j < k → l[j].2 = ((want[j].toNat : Int) == 118)) want.size rfl ⟨0, by omega, rfl, fun j _ _ h => absurd h (by omega)⟩ ?_
  rintro g vals st1 ⟨k, hk, rfl, ha⟩
  refine cnd_split (fun hd => ?_) (fun hd => ?_)
  · have hd := of_decide_eq_true hd
    have k1 : k < want.size := by omega
    have k2 : k < l.length := by omega
    have hat : (wdL l)[k]? = some [.s l[k].1, .b l[k].2] := by simp [wdL, k2]
    refine .e (by kernel_rfl) ?_
    refine ⟨k, _, rfl, hat, ?_⟩
    refine ⟨k, k1, rfl, ?_⟩
    refine cnd_split (fun h2 => ?_) (fun h2 => ?_)
    · have h2 : l[k].2 ≠ ((want[k].toNat : Int) == 118) := by simpa using h2
      refine retb (decide_eq_false (fun e => h2 ?_)).symm
      have e2 := congrArg (fun x => x[k]?) e
      simp only [List.getElem?_map, List.getElem?_eq_getElem k2, List.getElem?_eq_getElem (show k < want.data.toList.length by omega), Option.map_some, Option.some.injEq] at e2
      exact e2
    · have h2 : l[k].2 = ((want[k].toNat : Int) == 118) := by simpa using h2
      intro c hc
      rw [IntWalk.i64_in _ (by omega)] at hc
      obtain rfl : c = ((k + 1 : Nat) : Int) := by omega
      refine ⟨g - 1, by omega, k + 1, by omega, rfl, fun j hj hj2 hjk => ?_⟩
      by_cases e : j = k
      · subst e; exact h2
      · exact ha j hj hj2 (by omega)
  · have hd := of_decide_eq_false hd
    refine retb (decide_eq_true ?_).symm
    apply List.ext_getElem?
    intro j
    by_cases hj : j < l.length
    · simp only [List.getElem?_map, List.getElem?_eq_getElem hj, List.getElem?_eq_getElem (show j < want.data.toList.length by omega), Option.map_some, Option.some.injEq]
      exact ha j hj (by omega) (by omega)
    · rw [List.getElem?_eq_none (by simp; omega), List.getElem?_eq_none (by simp; omega)]
/-- a rule, of the words behind its guard -/
def tl2 (sd : Int) (g : Gd) (l : List Wd) : Option (Rl × Bool) := match l with
  | (w, false) :: r => tailL sd g w r
  | _ => none
def actR (sd : Int) (g : Gd) (l : List Wd) (ok : Bool) : Rl × Int := if ok = true then outR (tl2 sd g l) else (zeroR, 2)
def base0 (sd : Int) (g : Gd) : Rl := ⟨sd, g.1, g.2.1, g.2.2, 0, ⟨#[]⟩, ⟨#[]⟩, []⟩
def kNNV : ByteArray := ⟨#[110, 110, 118]⟩
def kNN : ByteArray := ⟨#[110, 110]⟩
def kNNN : ByteArray := ⟨#[110, 110, 110]⟩
theorem nnv_iff (l : List Wd) : shapeB l kNNV = true ↔ ∃ a b c, l = [(a, false), (b, false), (c, true)] := by
  unfold shapeB
  rw [decide_eq_true_eq]
  constructor
  · intro h
    have hl := congrArg List.length h
    rw [List.length_map, List.length_map] at hl
    have hl : l.length = 3 := hl
    match l, h, hl with
    | [(a, q), (b, q2), (c, q3)], h, _ =>
      have h : [q, q2, q3] = [false, false, true] := h
      simp at h
      obtain ⟨rfl, rfl, rfl⟩ := h
      exact ⟨a, b, c, rfl⟩
  · rintro ⟨a, b, c, rfl⟩
    rfl
theorem nn_iff (l : List Wd) : shapeB l kNN = true ↔ ∃ a b, l = [(a, false), (b, false)] := by
  unfold shapeB
  rw [decide_eq_true_eq]
  constructor
  · intro h
    have hl := congrArg List.length h
    rw [List.length_map, List.length_map] at hl
    have hl : l.length = 2 := hl
    match l, h, hl with
    | [(a, q), (b, q2)], h, _ =>
      have h : [q, q2] = [false, false] := h
      simp at h
      obtain ⟨rfl, rfl⟩ := h
      exact ⟨a, b, rfl⟩
  · rintro ⟨a, b, rfl⟩
    rfl
theorem nnn_iff (l : List Wd) : shapeB l kNNN = true ↔ ∃ a b c, l = [(a, false), (b, false), (c, false)] := by
  unfold shapeB
  rw [decide_eq_true_eq]
  constructor
  · intro h
    have hl := congrArg List.length h
    rw [List.length_map, List.length_map] at hl
    have hl : l.length = 3 := hl
    match l, h, hl with
    | [(a, q), (b, q2), (c, q3)], h, _ =>
      have h : [q, q2, q3] = [false, false, false] := h
      simp at h
      obtain ⟨rfl, rfl, rfl⟩ := h
      exact ⟨a, b, c, rfl⟩
  · rintro ⟨a, b, c, rfl⟩
    rfl
theorem set_shape {sd : Int} {g : Gd} {a b : ByteArray} {q2 : Bool} {r : List Wd} {x : Rl × Bool} (ha : a = kSet ∨ a = kAdd) (h : tailL sd g a ((b, q2) :: r) = some x) : shapeB ((a, false) :: (b, q2) :: r) kNNV = true := by
  refine (nnv_iff _).2 ?_
  have set : ∀ z, setL z r = none ∨ ∃ c l, r = (c, true) :: l ∧ ∃ y, setL z r = some (y, l) := fun z => by
    match r with
    | [] => exact .inl rfl
    | (c, false) :: l => exact .inl rfl
    | (c, true) :: l =>
      by_cases e : (parseT c).2 = 0 ∨ (parseT c).2 = 3
      · exact .inr ⟨c, l, rfl, _, by simp only [setL, partsL, valueL]; rw [if_pos e]⟩
      · exact .inl (by simp only [setL, partsL, valueL]; rw [if_neg e])
  cases q2 with
  | true => cases h
  | false =>
    simp only [tailL, nameL] at h
    have hact : ∃ z, actL a r = setL z r := by
      rcases ha with rfl | rfl
      · exact ⟨1, by unfold actL; rw [if_pos rfl]⟩
      · exact ⟨2, by unfold actL; rw [if_neg (by decide +kernel), if_pos rfl]⟩
    obtain ⟨z, hz⟩ := hact
    rw [hz] at h
    rcases set z with hs | ⟨c, l, rfl, y, hs⟩
    · rw [hs] at h; cases h
    · rw [hs] at h
      obtain ⟨z, to, ps, bb⟩ := y
      simp only at h
      split at h
      · cases h
      · rename_i hl
        have hl : l = [] := Decidable.byContradiction hl
        subst hl
        exact ⟨a, b, c, rfl⟩
theorem rem_shape {sd : Int} {g : Gd} {b : ByteArray} {q2 : Bool} {r : List Wd} {x : Rl × Bool} (h : tailL sd g kRem ((b, q2) :: r) = some x) : shapeB ((kRem, false) :: (b, q2) :: r) kNN = true := by
  refine (nn_iff _).2 ?_
  cases q2 with
  | true => cases h
  | false =>
    simp only [tailL, nameL] at h
    have hact : actL kRem r = some ((3, ⟨#[]⟩, [], false), r) := by
      unfold actL
      rw [if_neg (by decide +kernel), if_neg (by decide +kernel), if_pos rfl]
    rw [hact] at h
    simp only at h
    split at h
    · cases h
    · rename_i hl
      have hl : r = [] := Decidable.byContradiction hl
      subst hl
      exact ⟨kRem, b, rfl⟩
theorem ren_shape {sd : Int} {g : Gd} {b : ByteArray} {q2 : Bool} {r : List Wd} {x : Rl × Bool} (h : tailL sd g kRen ((b, q2) :: r) = some x) : shapeB ((kRen, false) :: (b, q2) :: r) kNNN = true := by
  refine (nnn_iff _).2 ?_
  cases q2 with
  | true => cases h
  | false =>
    simp only [tailL, nameL] at h
    have hact : actL kRen r = renL r := by
      unfold actL
      rw [if_neg (by decide +kernel), if_neg (by decide +kernel), if_neg (by decide +kernel), if_pos rfl]
    rw [hact] at h
    match r, h with
    | (c, false) :: l, h =>
      simp only [renL, nameL] at h
      split at h
      · cases h
      · rename_i hl
        have hl : l = [] := Decidable.byContradiction hl
        subst hl
        exact ⟨kRen, b, c, rfl⟩
theorem other_act {sd : Int} {g : Gd} {a : ByteArray} {l : List Wd} (h1 : a ≠ kSet) (h2 : a ≠ kAdd) (h3 : a ≠ kRem) (h4 : a ≠ kRen) : tailL sd g a l = none := by
  unfold tailL
  cases nameL l with
  | none => rfl
  | some x =>
    have : actL a x.2 = none := by
      unfold actL
      rw [if_neg h1, if_neg h2, if_neg h3, if_neg h4]
    simp only [this]
theorem parseT_or (s : ByteArray) : (parseT s).2 = 0 ∨ (parseT s).2 = 2 ∨ (parseT s).2 = 3 := by
  unfold parseT
  split
  · exact .inr (.inl rfl)
  · split
    · exact .inr (.inr rfl)
    · exact .inl rfl
theorem retV {us vs : List AV} {r : AV} (h : r = .tup us) (hw : ArgsW us vs) : resV r (.tup vs) := .inr ⟨us, vs, h, rfl, hw⟩
def finR (x : Rl) : Rl × Int := if checkR x = 0 then (x, 0) else (zeroR, 9)
theorem outR_no (x : Rl) : outR (some (x, false)) = finR x := by
  unfold outR finR
  simp only [Bool.false_eq_true, if_false]
  split
  · rfl
  · rename_i h
    rcases checkR_or x with h2 | h2
    · exact absurd h2 h
    · rw [h2]
theorem actR_set {sd : Int} {g : Gd} {a b c : ByteArray} {z : Int} (haz : a = kSet ∧ z = 1 ∨ a = kAdd ∧ z = 2) : actR sd g [(a, false), (b, false), (c, true)] true =
    if (parseT c).2 = 2 then (zeroR, 2) else if (parseT c).2 ≠ 0 then (zeroR, (parseT c).2) else finR ⟨sd, g.1, g.2.1, g.2.2, z, b, ⟨#[]⟩, (parseT c).1⟩ := by
  have n1 : kAdd ≠ kSet := by decide +kernel
  unfold actR
  rw [if_pos rfl]
  rcases parseT_or c with h | h | h <;> rcases haz with ⟨rfl, rfl⟩ | ⟨rfl, rfl⟩
  · simp [tl2, tailL, nameL, actL, setL, partsL, valueL, h, outR_no]
  · simp [tl2, tailL, nameL, actL, setL, partsL, valueL, h, n1, outR_no]
  · simp [tl2, tailL, nameL, actL, setL, partsL, valueL, h, outR]
  · simp [tl2, tailL, nameL, actL, setL, partsL, valueL, h, n1, outR]
  · simp [tl2, tailL, nameL, actL, setL, partsL, valueL, h, outR]
  · simp [tl2, tailL, nameL, actL, setL, partsL, valueL, h, n1, outR]
theorem actR_rem {sd : Int} {g : Gd} {b : ByteArray} : actR sd g [(kRem, false), (b, false)] true = finR ⟨sd, g.1, g.2.1, g.2.2, 3, b, ⟨#[]⟩, []⟩ := by
  have n2 : kRem ≠ kSet := by decide +kernel
  have n3 : kRem ≠ kAdd := by decide +kernel
  unfold actR
  rw [if_pos rfl]
  simp [tl2, tailL, nameL, actL, n2, n3, outR_no]
theorem actR_ren {sd : Int} {g : Gd} {b c : ByteArray} : actR sd g [(kRen, false), (b, false), (c, false)] true = finR ⟨sd, g.1, g.2.1, g.2.2, 4, b, c, []⟩ := by
  have n4 : kRen ≠ kSet := by decide +kernel
  have n5 : kRen ≠ kAdd := by decide +kernel
  have n6 : kRen ≠ kRem := by decide +kernel
  unfold actR
  rw [if_pos rfl]
  simp [tl2, tailL, nameL, actL, renL, n4, n5, n6, outR_no]
set_option maxHeartbeats 1000000 in
theorem act33_p (sd : Int) (g : Gd) (l : List Wd) (ok : Bool) (hl : l.length ≤ 100000) (hz : ∀ w ∈ l, w.1.size ≤ 100000) (h1 : g.2.1.size ≤ 100000) (h2 : g.2.2.size ≤ 100000) :
    APure Tryz.prog 48 [(base0 sd g).av, .sl .no 2 (wdL l), .b ok] (.tup [(actR sd g l ok).1.av, .i (actR sd g l ok).2]) [] := by
  have bad : tl2 sd g l = none → actR sd g l ok = (zeroR, 2) := fun h => by
    unfold actR
    split
    · rw [h]; rfl
    · rfl
  have hok : ok = false → actR sd g l ok = (zeroR, 2) := fun h => by
    unfold actR
    rw [if_neg (by rw [h]; decide)]
  have hwl := wdL_len l
  obtain ⟨gk, ga, gb⟩ := g
  have h1 : ga.size ≤ 100000 := h1
  have h2 : gb.size ≤ 100000 := h2
  match l, hl, hz, bad, hok, hwl with
  | [], _, _, bad, _, _ =>
    rw [bad rfl]
    show APure _ _ [.agg [.i sd, .i gk, .s ga, .s gb, .i 0, .s ⟨#[]⟩, .s ⟨#[]⟩, .sl .no 2 []], .sl .no 2 [], .b ok] _ _
    refine APure.ofG rfl ?_
    refine ACalls.of_vc T_ok mixed Tryz.func48 rfl Tryz.call48 ?_
    refine ⟨_, rfl, ?_⟩
    refine ⟨_, rfl, ?_⟩
    refine retV rfl ?_
    exact ⟨.inl (.inr ⟨_, _, rfl, rfl, .inl ⟨rfl, rfl⟩, .inl ⟨rfl, rfl⟩, .inl ⟨rfl, rfl⟩, .inl ⟨rfl, rfl⟩, .inl ⟨rfl, rfl⟩, .inl ⟨rfl, rfl⟩, .inl ⟨rfl, rfl⟩, .inr ⟨rfl, 2, rfl⟩, trivial⟩), .inl (.inl ⟨rfl, rfl⟩), trivial⟩
  | [(w, q)], _, _, bad, _, _ =>
    rw [bad (by cases q <;> rfl)]
    show APure _ _ [.agg [.i sd, .i gk, .s ga, .s gb, .i 0, .s ⟨#[]⟩, .s ⟨#[]⟩, .sl .no 2 []], .sl .no 2 [[.s w, .b q]], .b ok] _ _
    refine APure.ofG rfl ?_
    refine ACalls.of_vc T_ok mixed Tryz.func48 rfl Tryz.call48 ?_
    refine ⟨_, rfl, ?_⟩
    refine ⟨_, rfl, ?_⟩
    refine retV rfl ?_
    exact ⟨.inl (.inr ⟨_, _, rfl, rfl, .inl ⟨rfl, rfl⟩, .inl ⟨rfl, rfl⟩, .inl ⟨rfl, rfl⟩, .inl ⟨rfl, rfl⟩, .inl ⟨rfl, rfl⟩, .inl ⟨rfl, rfl⟩, .inl ⟨rfl, rfl⟩, .inr ⟨rfl, 2, rfl⟩, trivial⟩), .inl (.inl ⟨rfl, rfl⟩), trivial⟩
  | (a, q) :: (b, q2) :: r, hl, hz, bad, hok, hwl =>
    have hb : b.size ≤ 100000 := hz (b, q2) (by simp)
    show APure _ _ [.agg [.i sd, .i gk, .s ga, .s gb, .i 0, .s ⟨#[]⟩, .s ⟨#[]⟩, .sl .no 2 []], .sl .no 2 (wdL ((a, q) :: (b, q2) :: r)), .b ok] _ _
    have hsp := shape33_p ((a, q) :: (b, q2) :: r)
    have hll : ((a, q) :: (b, q2) :: r).length = r.length + 2 := rfl
    refine APure.ofG rfl ?_
    refine ACalls.of_vc T_ok mixed Tryz.func48 rfl Tryz.call48 ?_
    refine cnd_split (fun hd => ?_) (fun hd => ?_)
    rotate_left
    · have hd := of_decide_eq_false hd
      omega
    refine ⟨0, _, rfl, rfl, ?_⟩
    cases q with
    | true =>
      rw [bad rfl]
      refine ⟨_, rfl, ?_⟩
      refine ⟨_, rfl, ?_⟩
      refine retV rfl ?_
      exact ⟨.inl (.inr ⟨_, _, rfl, rfl, .inl ⟨rfl, rfl⟩, .inl ⟨rfl, rfl⟩, .inl ⟨rfl, rfl⟩, .inl ⟨rfl, rfl⟩, .inl ⟨rfl, rfl⟩, .inl ⟨rfl, rfl⟩, .inl ⟨rfl, rfl⟩, .inr ⟨rfl, 2, rfl⟩, trivial⟩), .inl (.inl ⟨rfl, rfl⟩), trivial⟩
    | false =>
      refine ⟨1, _, rfl, rfl, ?_⟩
      refine ⟨_, rfl, ?_⟩
      refine ⟨0, _, rfl, rfl, ?_⟩
      intro t1 ht1
      cases t1 with
      | true =>
        obtain rfl : a = kSet := ht1.1 rfl
        refine ⟨_, rfl, ?_⟩
        refine ⟨0, _, rfl, rfl, ?_⟩
        intro t2 ht2
        cases t2 with
        | true => exact absurd (ht2.1 rfl) (by decide +kernel)
        | false =>
        refine .p rfl (hsp kNNV (by omega) (by decide)) ?_
        cases hsh : shapeB ((kSet, false) :: (b, q2) :: r) kNNV with
        | false =>
          rw [bad (by
            show tailL sd (gk, ga, gb) kSet ((b, q2) :: r) = none
            cases ht : tailL sd (gk, ga, gb) kSet ((b, q2) :: r) with
            | none => rfl
            | some x => rw [set_shape (.inl rfl) ht] at hsh; cases hsh)]
          refine ⟨_, rfl, ?_⟩
          refine ⟨_, rfl, ?_⟩
          refine retV rfl ?_
          exact ⟨.inl (.inr ⟨_, _, rfl, rfl, .inl ⟨rfl, rfl⟩, .inl ⟨rfl, rfl⟩, .inl ⟨rfl, rfl⟩, .inl ⟨rfl, rfl⟩, .inl ⟨rfl, rfl⟩, .inl ⟨rfl, rfl⟩, .inl ⟨rfl, rfl⟩, .inr ⟨rfl, 2, rfl⟩, trivial⟩), .inl (.inl ⟨rfl, rfl⟩), trivial⟩
        | true =>
          obtain ⟨_, _, c, e9⟩ := (nnv_iff _).1 hsh
          simp only [List.cons.injEq, Prod.mk.injEq] at e9
          obtain ⟨-, ⟨-, rfl⟩, rfl⟩ := e9
          have hc : c.size ≤ 100000 := hz (c, true) (by simp)
          have hpl := parseT_len c
          refine ⟨2, _, rfl, rfl, ?_⟩
          refine .p rfl (parse31_p c (by omega)) ?_
          refine ⟨_, rfl, ?_⟩
          cases ok with
          | false =>
            rw [hok rfl]
            refine cnd_split (fun e2 => ?_) (fun e2 => ?_)
            · skip
              refine ⟨_, rfl, ?_⟩
              refine ⟨_, rfl, ?_⟩
              refine retV rfl ?_
              exact ⟨.inl (.inr ⟨_, _, rfl, rfl, .inl ⟨rfl, rfl⟩, .inl ⟨rfl, rfl⟩, .inl ⟨rfl, rfl⟩, .inl ⟨rfl, rfl⟩, .inl ⟨rfl, rfl⟩, .inl ⟨rfl, rfl⟩, .inl ⟨rfl, rfl⟩, .inr ⟨rfl, 2, rfl⟩, trivial⟩), .inl (.inl ⟨rfl, rfl⟩), trivial⟩
            · skip
              refine ⟨_, rfl, ?_⟩
              refine ⟨_, rfl, ?_⟩
              refine retV rfl ?_
              exact ⟨.inl (.inr ⟨_, _, rfl, rfl, .inl ⟨rfl, rfl⟩, .inl ⟨rfl, rfl⟩, .inl ⟨rfl, rfl⟩, .inl ⟨rfl, rfl⟩, .inl ⟨rfl, rfl⟩, .inl ⟨rfl, rfl⟩, .inl ⟨rfl, rfl⟩, .inr ⟨rfl, 2, rfl⟩, trivial⟩), .inl (.inl ⟨rfl, rfl⟩), trivial⟩
          | true =>
            rw [actR_set (z := 1) (.inl ⟨rfl, rfl⟩)]
            refine cnd_split (fun e2 => ?_) (fun e2 => ?_)
            · have e2 : (parseT c).2 = 2 := beq_iff_eq.1 e2
              rw [if_pos e2]
              refine ⟨_, rfl, ?_⟩
              refine ⟨_, rfl, ?_⟩
              refine retV rfl ?_
              exact ⟨.inl (.inr ⟨_, _, rfl, rfl, .inl ⟨rfl, rfl⟩, .inl ⟨rfl, rfl⟩, .inl ⟨rfl, rfl⟩, .inl ⟨rfl, rfl⟩, .inl ⟨rfl, rfl⟩, .inl ⟨rfl, rfl⟩, .inl ⟨rfl, rfl⟩, .inr ⟨rfl, 2, rfl⟩, trivial⟩), .inl (.inl ⟨rfl, rfl⟩), trivial⟩
            have e2 : (parseT c).2 ≠ 2 := beq_eq_false_iff_ne.1 e2
            rw [if_neg e2]
            refine cnd_split (fun e3 => ?_) (fun e3 => ?_)
            · have e3 : (parseT c).2 ≠ 0 := by simpa using e3
              rw [if_pos e3]
              refine ⟨_, rfl, ?_⟩
              refine ⟨_, rfl, ?_⟩
              refine retV rfl ?_
              exact ⟨.inl (.inr ⟨_, _, rfl, rfl, .inl ⟨rfl, rfl⟩, .inl ⟨rfl, rfl⟩, .inl ⟨rfl, rfl⟩, .inl ⟨rfl, rfl⟩, .inl ⟨rfl, rfl⟩, .inl ⟨rfl, rfl⟩, .inl ⟨rfl, rfl⟩, .inr ⟨rfl, 2, rfl⟩, trivial⟩), .inl (.inl ⟨rfl, rfl⟩), trivial⟩
            have e3 : (parseT c).2 = 0 := by simpa using e3
            rw [if_neg (fun h => h e3)]
            refine ⟨_, rfl, ?_⟩
            refine .p rfl (rcheck32_p (⟨sd, gk, ga, gb, 1, b, ⟨#[]⟩, (parseT c).1⟩ : Rl) ⟨h1, h2, hb, by show 0 ≤ 100000; omega, by show (parseT c).1.length ≤ 1000; omega, by show sumT (parseT c).1 ≤ 1000000; omega⟩) ?_
            refine cnd_split (fun e5 => ?_) (fun e5 => ?_)
            · have e5 : checkR (⟨sd, gk, ga, gb, 1, b, ⟨#[]⟩, (parseT c).1⟩ : Rl) ≠ 0 := by simpa using e5
              have e6 : finR (⟨sd, gk, ga, gb, 1, b, ⟨#[]⟩, (parseT c).1⟩ : Rl) = (zeroR, 9) := by unfold finR; rw [if_neg e5]
              rw [e6]
              refine ⟨_, rfl, ?_⟩
              refine ⟨_, rfl, ?_⟩
              refine retV rfl ?_
              exact ⟨.inl (.inr ⟨_, _, rfl, rfl, .inl ⟨rfl, rfl⟩, .inl ⟨rfl, rfl⟩, .inl ⟨rfl, rfl⟩, .inl ⟨rfl, rfl⟩, .inl ⟨rfl, rfl⟩, .inl ⟨rfl, rfl⟩, .inl ⟨rfl, rfl⟩, .inr ⟨rfl, 2, rfl⟩, trivial⟩), .inl (.inl ⟨rfl, rfl⟩), trivial⟩
            · have e5 : checkR (⟨sd, gk, ga, gb, 1, b, ⟨#[]⟩, (parseT c).1⟩ : Rl) = 0 := by simpa using e5
              have e6 : finR (⟨sd, gk, ga, gb, 1, b, ⟨#[]⟩, (parseT c).1⟩ : Rl) = ((⟨sd, gk, ga, gb, 1, b, ⟨#[]⟩, (parseT c).1⟩ : Rl), 0) := by unfold finR; rw [if_pos e5]
              rw [e6]
              refine ⟨_, rfl, ?_⟩
              refine ⟨_, rfl, ?_⟩
              refine ⟨_, rfl, ?_⟩
              refine retV rfl ?_
              exact ⟨.inl (.inl ⟨rfl, rfl⟩), .inl (.inl ⟨rfl, rfl⟩), trivial⟩
      | false =>
        have n1 : a ≠ kSet := fun e => by cases ht1.2 e
        intro t2 ht2
        cases t2 with
        | true =>
          obtain rfl : a = kAdd := ht2.1 rfl
          refine ⟨_, rfl, ?_⟩
          refine ⟨0, _, rfl, rfl, ?_⟩
          intro t3 ht3
          cases t3 with
          | false => cases ht3.2 rfl
          | true =>
          refine ⟨_, rfl, ?_⟩
          refine .p rfl (hsp kNNV (by omega) (by decide)) ?_
          cases hsh : shapeB ((kAdd, false) :: (b, q2) :: r) kNNV with
          | false =>
            rw [bad (by
              show tailL sd (gk, ga, gb) kAdd ((b, q2) :: r) = none
              cases ht : tailL sd (gk, ga, gb) kAdd ((b, q2) :: r) with
              | none => rfl
              | some x => rw [set_shape (.inr rfl) ht] at hsh; cases hsh)]
            refine ⟨_, rfl, ?_⟩
            refine ⟨_, rfl, ?_⟩
            refine retV rfl ?_
            exact ⟨.inl (.inr ⟨_, _, rfl, rfl, .inl ⟨rfl, rfl⟩, .inl ⟨rfl, rfl⟩, .inl ⟨rfl, rfl⟩, .inl ⟨rfl, rfl⟩, .inl ⟨rfl, rfl⟩, .inl ⟨rfl, rfl⟩, .inl ⟨rfl, rfl⟩, .inr ⟨rfl, 2, rfl⟩, trivial⟩), .inl (.inl ⟨rfl, rfl⟩), trivial⟩
          | true =>
            obtain ⟨_, _, c, e9⟩ := (nnv_iff _).1 hsh
            simp only [List.cons.injEq, Prod.mk.injEq] at e9
            obtain ⟨-, ⟨-, rfl⟩, rfl⟩ := e9
            have hc : c.size ≤ 100000 := hz (c, true) (by simp)
            have hpl := parseT_len c
            refine ⟨2, _, rfl, rfl, ?_⟩
            refine .p rfl (parse31_p c (by omega)) ?_
            refine ⟨_, rfl, ?_⟩
            cases ok with
            | false =>
              rw [hok rfl]
              refine cnd_split (fun e2 => ?_) (fun e2 => ?_)
              · skip
                refine ⟨_, rfl, ?_⟩
                refine ⟨_, rfl, ?_⟩
                refine retV rfl ?_
                exact ⟨.inl (.inr ⟨_, _, rfl, rfl, .inl ⟨rfl, rfl⟩, .inl ⟨rfl, rfl⟩, .inl ⟨rfl, rfl⟩, .inl ⟨rfl, rfl⟩, .inl ⟨rfl, rfl⟩, .inl ⟨rfl, rfl⟩, .inl ⟨rfl, rfl⟩, .inr ⟨rfl, 2, rfl⟩, trivial⟩), .inl (.inl ⟨rfl, rfl⟩), trivial⟩
              · skip
                refine ⟨_, rfl, ?_⟩
                refine ⟨_, rfl, ?_⟩
                refine retV rfl ?_
                exact ⟨.inl (.inr ⟨_, _, rfl, rfl, .inl ⟨rfl, rfl⟩, .inl ⟨rfl, rfl⟩, .inl ⟨rfl, rfl⟩, .inl ⟨rfl, rfl⟩, .inl ⟨rfl, rfl⟩, .inl ⟨rfl, rfl⟩, .inl ⟨rfl, rfl⟩, .inr ⟨rfl, 2, rfl⟩, trivial⟩), .inl (.inl ⟨rfl, rfl⟩), trivial⟩
            | true =>
              rw [actR_set (z := 2) (.inr ⟨rfl, rfl⟩)]
              refine cnd_split (fun e2 => ?_) (fun e2 => ?_)
              · have e2 : (parseT c).2 = 2 := beq_iff_eq.1 e2
                rw [if_pos e2]
                refine ⟨_, rfl, ?_⟩
                refine ⟨_, rfl, ?_⟩
                refine retV rfl ?_
                exact ⟨.inl (.inr ⟨_, _, rfl, rfl, .inl ⟨rfl, rfl⟩, .inl ⟨rfl, rfl⟩, .inl ⟨rfl, rfl⟩, .inl ⟨rfl, rfl⟩, .inl ⟨rfl, rfl⟩, .inl ⟨rfl, rfl⟩, .inl ⟨rfl, rfl⟩, .inr ⟨rfl, 2, rfl⟩, trivial⟩), .inl (.inl ⟨rfl, rfl⟩), trivial⟩
              have e2 : (parseT c).2 ≠ 2 := beq_eq_false_iff_ne.1 e2
              rw [if_neg e2]
              refine cnd_split (fun e3 => ?_) (fun e3 => ?_)
              · have e3 : (parseT c).2 ≠ 0 := by simpa using e3
                rw [if_pos e3]
                refine ⟨_, rfl, ?_⟩
                refine ⟨_, rfl, ?_⟩
                refine retV rfl ?_
                exact ⟨.inl (.inr ⟨_, _, rfl, rfl, .inl ⟨rfl, rfl⟩, .inl ⟨rfl, rfl⟩, .inl ⟨rfl, rfl⟩, .inl ⟨rfl, rfl⟩, .inl ⟨rfl, rfl⟩, .inl ⟨rfl, rfl⟩, .inl ⟨rfl, rfl⟩, .inr ⟨rfl, 2, rfl⟩, trivial⟩), .inl (.inl ⟨rfl, rfl⟩), trivial⟩
              have e3 : (parseT c).2 = 0 := by simpa using e3
              rw [if_neg (fun h => h e3)]
              refine ⟨_, rfl, ?_⟩
              refine .p rfl (rcheck32_p (⟨sd, gk, ga, gb, 2, b, ⟨#[]⟩, (parseT c).1⟩ : Rl) ⟨h1, h2, hb, by show 0 ≤ 100000; omega, by show (parseT c).1.length ≤ 1000; omega, by show sumT (parseT c).1 ≤ 1000000; omega⟩) ?_
              refine cnd_split (fun e5 => ?_) (fun e5 => ?_)
              · have e5 : checkR (⟨sd, gk, ga, gb, 2, b, ⟨#[]⟩, (parseT c).1⟩ : Rl) ≠ 0 := by simpa using e5
                have e6 : finR (⟨sd, gk, ga, gb, 2, b, ⟨#[]⟩, (parseT c).1⟩ : Rl) = (zeroR, 9) := by unfold finR; rw [if_neg e5]
                rw [e6]
                refine ⟨_, rfl, ?_⟩
                refine ⟨_, rfl, ?_⟩
                refine retV rfl ?_
                exact ⟨.inl (.inr ⟨_, _, rfl, rfl, .inl ⟨rfl, rfl⟩, .inl ⟨rfl, rfl⟩, .inl ⟨rfl, rfl⟩, .inl ⟨rfl, rfl⟩, .inl ⟨rfl, rfl⟩, .inl ⟨rfl, rfl⟩, .inl ⟨rfl, rfl⟩, .inr ⟨rfl, 2, rfl⟩, trivial⟩), .inl (.inl ⟨rfl, rfl⟩), trivial⟩
              · have e5 : checkR (⟨sd, gk, ga, gb, 2, b, ⟨#[]⟩, (parseT c).1⟩ : Rl) = 0 := by simpa using e5
                have e6 : finR (⟨sd, gk, ga, gb, 2, b, ⟨#[]⟩, (parseT c).1⟩ : Rl) = ((⟨sd, gk, ga, gb, 2, b, ⟨#[]⟩, (parseT c).1⟩ : Rl), 0) := by unfold finR; rw [if_pos e5]
                rw [e6]
                refine ⟨_, rfl, ?_⟩
                refine ⟨_, rfl, ?_⟩
                refine ⟨_, rfl, ?_⟩
                refine retV rfl ?_
                exact ⟨.inl (.inl ⟨rfl, rfl⟩), .inl (.inl ⟨rfl, rfl⟩), trivial⟩
        | false =>
          have n2 : a ≠ kAdd := fun e => by cases ht2.2 e
          intro t3 ht3
          cases t3 with
          | true =>
            obtain rfl : a = kRem := ht3.1 rfl
            refine ⟨_, rfl, ?_⟩
            refine .p rfl (hsp kNN (by omega) (by decide)) ?_
            cases hsh : shapeB ((kRem, false) :: (b, q2) :: r) kNN with
            | false =>
              rw [bad (by
                show tailL sd (gk, ga, gb) kRem ((b, q2) :: r) = none
                cases ht : tailL sd (gk, ga, gb) kRem ((b, q2) :: r) with
                | none => rfl
                | some x => rw [rem_shape ht] at hsh; cases hsh)]
              refine ⟨_, rfl, ?_⟩
              refine ⟨_, rfl, ?_⟩
              refine retV rfl ?_
              exact ⟨.inl (.inr ⟨_, _, rfl, rfl, .inl ⟨rfl, rfl⟩, .inl ⟨rfl, rfl⟩, .inl ⟨rfl, rfl⟩, .inl ⟨rfl, rfl⟩, .inl ⟨rfl, rfl⟩, .inl ⟨rfl, rfl⟩, .inl ⟨rfl, rfl⟩, .inr ⟨rfl, 2, rfl⟩, trivial⟩), .inl (.inl ⟨rfl, rfl⟩), trivial⟩
            | true =>
              obtain ⟨_, _, e9⟩ := (nn_iff _).1 hsh
              simp only [List.cons.injEq, Prod.mk.injEq] at e9
              obtain ⟨-, ⟨-, rfl⟩, rfl⟩ := e9
              cases ok with
              | false =>
                rw [hok rfl]
                refine ⟨_, rfl, ?_⟩
                refine ⟨_, rfl, ?_⟩
                refine retV rfl ?_
                exact ⟨.inl (.inr ⟨_, _, rfl, rfl, .inl ⟨rfl, rfl⟩, .inl ⟨rfl, rfl⟩, .inl ⟨rfl, rfl⟩, .inl ⟨rfl, rfl⟩, .inl ⟨rfl, rfl⟩, .inl ⟨rfl, rfl⟩, .inl ⟨rfl, rfl⟩, .inr ⟨rfl, 2, rfl⟩, trivial⟩), .inl (.inl ⟨rfl, rfl⟩), trivial⟩
              | true =>
                rw [actR_rem]
                refine ⟨_, rfl, ?_⟩
                refine .p rfl (rcheck32_p (⟨sd, gk, ga, gb, 3, b, ⟨#[]⟩, []⟩ : Rl) ⟨h1, h2, hb, by show 0 ≤ 100000; omega, by show 0 ≤ 1000; omega, by show 0 ≤ 1000000; omega⟩) ?_
                refine cnd_split (fun e5 => ?_) (fun e5 => ?_)
                · have e5 : checkR (⟨sd, gk, ga, gb, 3, b, ⟨#[]⟩, []⟩ : Rl) ≠ 0 := by simpa using e5
                  have e6 : finR (⟨sd, gk, ga, gb, 3, b, ⟨#[]⟩, []⟩ : Rl) = (zeroR, 9) := by unfold finR; rw [if_neg e5]
                  rw [e6]
                  refine ⟨_, rfl, ?_⟩
                  refine ⟨_, rfl, ?_⟩
                  refine retV rfl ?_
                  exact ⟨.inl (.inr ⟨_, _, rfl, rfl, .inl ⟨rfl, rfl⟩, .inl ⟨rfl, rfl⟩, .inl ⟨rfl, rfl⟩, .inl ⟨rfl, rfl⟩, .inl ⟨rfl, rfl⟩, .inl ⟨rfl, rfl⟩, .inl ⟨rfl, rfl⟩, .inr ⟨rfl, 2, rfl⟩, trivial⟩), .inl (.inl ⟨rfl, rfl⟩), trivial⟩
                · have e5 : checkR (⟨sd, gk, ga, gb, 3, b, ⟨#[]⟩, []⟩ : Rl) = 0 := by simpa using e5
                  have e6 : finR (⟨sd, gk, ga, gb, 3, b, ⟨#[]⟩, []⟩ : Rl) = ((⟨sd, gk, ga, gb, 3, b, ⟨#[]⟩, []⟩ : Rl), 0) := by unfold finR; rw [if_pos e5]
                  rw [e6]
                  refine ⟨_, rfl, ?_⟩
                  refine ⟨_, rfl, ?_⟩
                  refine ⟨_, rfl, ?_⟩
                  refine retV rfl ?_
                  exact ⟨.inl (.inl ⟨rfl, rfl⟩), .inl (.inl ⟨rfl, rfl⟩), trivial⟩
          | false =>
            have n3 : a ≠ kRem := fun e => by cases ht3.2 e
            intro t4 ht4
            cases t4 with
            | true =>
              obtain rfl : a = kRen := ht4.1 rfl
              refine ⟨_, rfl, ?_⟩
              refine .p rfl (hsp kNNN (by omega) (by decide)) ?_
              cases hsh : shapeB ((kRen, false) :: (b, q2) :: r) kNNN with
              | false =>
                rw [bad (by
                  show tailL sd (gk, ga, gb) kRen ((b, q2) :: r) = none
                  cases ht : tailL sd (gk, ga, gb) kRen ((b, q2) :: r) with
                  | none => rfl
                  | some x => rw [ren_shape ht] at hsh; cases hsh)]
                refine ⟨_, rfl, ?_⟩
                refine ⟨_, rfl, ?_⟩
                refine retV rfl ?_
                exact ⟨.inl (.inr ⟨_, _, rfl, rfl, .inl ⟨rfl, rfl⟩, .inl ⟨rfl, rfl⟩, .inl ⟨rfl, rfl⟩, .inl ⟨rfl, rfl⟩, .inl ⟨rfl, rfl⟩, .inl ⟨rfl, rfl⟩, .inl ⟨rfl, rfl⟩, .inr ⟨rfl, 2, rfl⟩, trivial⟩), .inl (.inl ⟨rfl, rfl⟩), trivial⟩
              | true =>
                obtain ⟨_, _, c, e9⟩ := (nnn_iff _).1 hsh
                simp only [List.cons.injEq, Prod.mk.injEq] at e9
                obtain ⟨-, ⟨-, rfl⟩, rfl⟩ := e9
                have hc : c.size ≤ 100000 := hz (c, false) (by simp)
                refine ⟨2, _, rfl, rfl, ?_⟩
                refine ⟨_, rfl, ?_⟩
                cases ok with
                | false =>
                  rw [hok rfl]
                  refine ⟨_, rfl, ?_⟩
                  refine ⟨_, rfl, ?_⟩
                  refine retV rfl ?_
                  exact ⟨.inl (.inr ⟨_, _, rfl, rfl, .inl ⟨rfl, rfl⟩, .inl ⟨rfl, rfl⟩, .inl ⟨rfl, rfl⟩, .inl ⟨rfl, rfl⟩, .inl ⟨rfl, rfl⟩, .inl ⟨rfl, rfl⟩, .inl ⟨rfl, rfl⟩, .inr ⟨rfl, 2, rfl⟩, trivial⟩), .inl (.inl ⟨rfl, rfl⟩), trivial⟩
                | true =>
                  rw [actR_ren]
                  refine ⟨_, rfl, ?_⟩
                  refine .p rfl (rcheck32_p (⟨sd, gk, ga, gb, 4, b, c, []⟩ : Rl) ⟨h1, h2, hb, hc, by show 0 ≤ 1000; omega, by show 0 ≤ 1000000; omega⟩) ?_
                  refine cnd_split (fun e5 => ?_) (fun e5 => ?_)
                  · have e5 : checkR (⟨sd, gk, ga, gb, 4, b, c, []⟩ : Rl) ≠ 0 := by simpa using e5
                    have e6 : finR (⟨sd, gk, ga, gb, 4, b, c, []⟩ : Rl) = (zeroR, 9) := by unfold finR; rw [if_neg e5]
                    rw [e6]
                    refine ⟨_, rfl, ?_⟩
                    refine ⟨_, rfl, ?_⟩
                    refine retV rfl ?_
                    exact ⟨.inl (.inr ⟨_, _, rfl, rfl, .inl ⟨rfl, rfl⟩, .inl ⟨rfl, rfl⟩, .inl ⟨rfl, rfl⟩, .inl ⟨rfl, rfl⟩, .inl ⟨rfl, rfl⟩, .inl ⟨rfl, rfl⟩, .inl ⟨rfl, rfl⟩, .inr ⟨rfl, 2, rfl⟩, trivial⟩), .inl (.inl ⟨rfl, rfl⟩), trivial⟩
                  · have e5 : checkR (⟨sd, gk, ga, gb, 4, b, c, []⟩ : Rl) = 0 := by simpa using e5
                    have e6 : finR (⟨sd, gk, ga, gb, 4, b, c, []⟩ : Rl) = ((⟨sd, gk, ga, gb, 4, b, c, []⟩ : Rl), 0) := by unfold finR; rw [if_pos e5]
                    rw [e6]
                    refine ⟨_, rfl, ?_⟩
                    refine ⟨_, rfl, ?_⟩
                    refine ⟨_, rfl, ?_⟩
                    refine retV rfl ?_
                    exact ⟨.inl (.inl ⟨rfl, rfl⟩), .inl (.inl ⟨rfl, rfl⟩), trivial⟩
            | false =>
              have n4 : a ≠ kRen := fun e => by cases ht4.2 e
              rw [bad (other_act n1 n2 n3 n4)]
              refine ⟨_, rfl, ?_⟩
              refine ⟨_, rfl, ?_⟩
              refine retV rfl ?_
              exact ⟨.inl (.inr ⟨_, _, rfl, rfl, .inl ⟨rfl, rfl⟩, .inl ⟨rfl, rfl⟩, .inl ⟨rfl, rfl⟩, .inl ⟨rfl, rfl⟩, .inl ⟨rfl, rfl⟩, .inl ⟨rfl, rfl⟩, .inl ⟨rfl, rfl⟩, .inr ⟨rfl, 2, rfl⟩, trivial⟩), .inl (.inl ⟨rfl, rfl⟩), trivial⟩
end Go.Proofs.YtgaidgblihnldaaGreatDoor
