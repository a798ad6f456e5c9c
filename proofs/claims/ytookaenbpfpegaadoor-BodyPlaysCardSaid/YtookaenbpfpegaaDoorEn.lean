/- Data cut into chunks of one size, in plain words. No statement of its own. -/
import Derived.Test.YtookaenbpfpegaaDoorDq
set_option linter.unusedSimpArgs false
set_option linter.unusedVariables false
set_option maxRecDepth 100000
namespace Go.Proofs.YtookaenbpfpegaaDoor
open Go.RowKit
/-- the full pieces, and what is left -/
def fullW (size : Nat) (d : List UInt8) : List (List UInt8) × List UInt8 :=
  if _h : size = 0 ∨ d.length < size then ([], d) else (d.take size :: (fullW size (d.drop size)).1, (fullW size (d.drop size)).2)
termination_by d.length
decreasing_by all_goals (rw [List.length_drop]; omega)
theorem fullW_lt {size : Nat} {d : List UInt8} (h : size = 0 ∨ d.length < size) : fullW size d = ([], d) := by rw [fullW, dif_pos h]
theorem fullW_ge {size : Nat} {d : List UInt8} (h : ¬ (size = 0 ∨ d.length < size)) : fullW size d = (d.take size :: (fullW size (d.drop size)).1, (fullW size (d.drop size)).2) := by
  conv => lhs; rw [fullW, dif_neg h]
theorem fullW_app (size : Nat) : ∀ (n : Nat) (a b : List UInt8), a.length ≤ n → fullW size (a ++ b) = ((fullW size a).1 ++ (fullW size ((fullW size a).2 ++ b)).1, (fullW size ((fullW size a).2 ++ b)).2)
  | n, a, b, hn => by
    by_cases h : size = 0 ∨ a.length < size
    · rw [fullW_lt h]; rfl
    · have h2 : ¬ (size = 0 ∨ (a ++ b).length < size) := by rw [List.length_append]; omega
      rw [fullW_ge h, fullW_ge h2, List.take_append_of_le_length (by omega), List.drop_append_of_le_length (by omega)]
      cases n with
      | zero => omega
      | succ n =>
        rw [fullW_app size n (a.drop size) b (by rw [List.length_drop]; omega)]
        rfl
theorem fullW_flat (size : Nat) : ∀ (n : Nat) (d : List UInt8), d.length ≤ n → (fullW size d).1.flatten ++ (fullW size d).2 = d
  | n, d, hn => by
    by_cases h : size = 0 ∨ d.length < size
    · rw [fullW_lt h]; rfl
    · rw [fullW_ge h]
      cases n with
      | zero => omega
      | succ n =>
        have := fullW_flat size n (d.drop size) (by rw [List.length_drop]; omega)
        simp only [List.flatten_cons, List.append_assoc]
        rw [this, List.take_append_drop]
theorem fullW_rest {size : Nat} (hs : 1 ≤ size) : ∀ (n : Nat) (d : List UInt8), d.length ≤ n → (fullW size d).2.length < size
  | n, d, hn => by
    by_cases h : size = 0 ∨ d.length < size
    · rw [fullW_lt h]; show d.length < size; omega
    · rw [fullW_ge h]
      cases n with
      | zero => omega
      | succ n => exact fullW_rest hs n (d.drop size) (by rw [List.length_drop]; omega)
theorem fullW_ne (size : Nat) : ∀ (n : Nat) (d : List UInt8), d.length ≤ n → ∀ x ∈ (fullW size d).1, x ≠ []
  | n, d, hn, x, hx => by
    by_cases h : size = 0 ∨ d.length < size
    · rw [fullW_lt h] at hx; cases hx
    · rw [fullW_ge h] at hx
      cases n with
      | zero => omega
      | succ n =>
        rcases List.mem_cons.1 hx with rfl | hx
        · intro e
          have := congrArg List.length e
          rw [List.length_take, List.length_nil] at this
          omega
        · exact fullW_ne size n (d.drop size) (by rw [List.length_drop]; omega) x hx
theorem pcsL_app (a b : List (List UInt8)) : pcsL (a ++ b) = pcsL a ++ pcsL b := by unfold pcsL; rw [List.flatMap_append]
theorem len_flat : ∀ {l : List (List UInt8)}, (∀ x ∈ l, x ≠ []) → l.length ≤ l.flatten.length
  | [], _ => Nat.zero_le _
  | x :: l, h => by
    have h1 : 1 ≤ x.length := by
      cases hx : x with
      | nil => exact absurd hx (h x List.mem_cons_self)
      | cons a b => simp
    have := len_flat (l := l) fun y hy => h y (List.mem_cons_of_mem _ hy)
    rw [List.flatten_cons, List.length_append, List.length_cons]
    omega
theorem pcsL_le : ∀ (l : List (List UInt8)), l.flatten.length ≤ 1099511627776 → (pcsL l).length ≤ l.flatten.length + 68 * l.length
  | [], _ => Nat.zero_le _
  | x :: l, h => by
    rw [List.flatten_cons, List.length_append] at h
    have ih := pcsL_le l (by omega)
    have e : pcsL (x :: l) = (if x = [] then [] else pcL x) ++ pcsL l := by unfold pcsL; rw [List.flatMap_cons]
    have hp : (if x = [] then [] else pcL x).length ≤ x.length + 68 := by
      split
      · simp
      · rw [pcL_len]
        have : (textH (x.length : Int)).size ≤ 64 := textH_size (by omega)
        omega
    rw [e, List.length_append, List.flatten_cons, List.length_append, List.length_cons]
    omega
theorem joinEm_snoc (l : List ByteArray) (x : ByteArray) : joinC ⟨#[]⟩ (l ++ [x]) = joinC ⟨#[]⟩ l ++ x := by
  by_cases h : l = []
  · subst h
    rw [List.nil_append, joinC_one, joinC_nil]
    exact toInj (by rw [app_l']; rfl)
  · rw [joinC_snoc _ _ _ h, add_empB]
def outP (l : List (List UInt8)) : List ByteArray := l.map fun x => pieceW (toB x)
theorem join_outP : ∀ (n : Nat) (l : List (List UInt8)), l.length = n → joinC ⟨#[]⟩ (outP l) = toB (pcsL l)
  | 0, l, h => by
    have : l = [] := List.eq_nil_of_length_eq_zero h
    subst this
    rfl
  | n + 1, l, h => by
    have hne : l ≠ [] := fun e => by subst e; cases h
    have e := List.dropLast_concat_getLast hne
    have ih := join_outP n l.dropLast (by rw [List.length_dropLast]; omega)
    generalize l.dropLast = p at e ih
    generalize l.getLast hne = x at e
    subst e
    unfold outP at ih ⊢
    rw [List.map_append, List.map_cons, List.map_nil, joinEm_snoc, ih]
    refine toInj ?_
    rw [app_l', toB_l, toB_l, pcsL_app]
    congr 1
    unfold pcsL
    rw [List.flatMap_cons, List.flatMap_nil, List.append_nil]
    by_cases hx : x = []
    · rw [if_pos hx, hx]; rfl
    · rw [if_neg hx, pieceW_l, toB_l]
      rw [toB_size]
      intro h
      exact hx (List.eq_nil_of_length_eq_zero h)
/-- what was put, and what is left, as texts -/
def putE (size : Nat) (s : ByteArray) : ByteArray := toB (pcsL (fullW size s.data.toList).1)
def restE (size : Nat) (s : ByteArray) : ByteArray := toB (fullW size s.data.toList).2
theorem putE_app (size : Nat) (a b : ByteArray) : putE size (a ++ b) = putE size a ++ putE size (restE size a ++ b) ∧ restE size (a ++ b) = restE size (restE size a ++ b) := by
  unfold putE restE
  rw [app_l', app_l', toB_l, fullW_app size _ _ _ (Nat.le_refl _)]
  refine ⟨toInj ?_, rfl⟩
  rw [app_l', toB_l, toB_l, toB_l, pcsL_app]
theorem restE_le (size : Nat) (s : ByteArray) : (restE size s).size ≤ s.size := by
  have := congrArg List.length (fullW_flat size _ s.data.toList (Nat.le_refl _))
  rw [List.length_append, blen] at this
  unfold restE
  rw [toB_size]
  omega
theorem restE_lt {size : Nat} (hs : 1 ≤ size) (s : ByteArray) : (restE size s).size < size := by
  unfold restE
  rw [toB_size]
  exact fullW_rest hs _ _ (Nat.le_refl _)
theorem putE_le {size : Nat} {s : ByteArray} (hs : s.size ≤ 10000000) : (putE size s).size ≤ 69 * s.size := by
  have h1 := congrArg List.length (fullW_flat size _ s.data.toList (Nat.le_refl _))
  rw [List.length_append, blen] at h1
  have h2 := len_flat (fullW_ne size _ s.data.toList (Nat.le_refl _))
  have h3 := pcsL_le (fullW size s.data.toList).1 (by omega)
  unfold putE
  rw [toB_size]
  omega
def allE (size : Int) (body : ByteArray) (trs : List Fld) : ByteArray × Int :=
  if size < 1 ∨ 65536 < size then (⟨#[]⟩, 1) else if (lastW trs).2 ≠ 0 then (⟨#[]⟩, (lastW trs).2) else (putE size.toNat body ++ (pieceW (restE size.toNat body) ++ (lastW trs).1), 0)
/-- a whole body, decoded -/
theorem allE_run {size : Nat} (body : ByteArray) (trs : List Fld) (hb : body.size ≤ 10000000) (hw : (lastW trs).2 = 0) (hz : ∀ f ∈ trs, f.1.size ≤ 50 ∧ f.2.size ≤ 200) (r : List UInt8) :
    ∃ X : Dc, runD 65536 Dc.new ((putE size body ++ (pieceW (restE size body) ++ (lastW trs).1)).data.toList ++ r) = ⟨(putE size body ++ (pieceW (restE size body) ++ (lastW trs).1)).size, body.data.toList, true, 0, X⟩ ∧ X.tr = trs ∧ X.line = [] := by
  have h1 := fullW_flat size _ body.data.toList (Nat.le_refl _)
  have hmb : mostB = 1099511627776 := rfl
  have hp : (pieceW (restE size body)).data.toList = pcsL [(fullW size body.data.toList).2] := by
    unfold pcsL
    rw [List.flatMap_cons, List.flatMap_nil, List.append_nil]
    unfold restE
    by_cases hx : (fullW size body.data.toList).2 = []
    · rw [if_pos hx, hx]; rfl
    · rw [if_neg hx, pieceW_l, toB_l]
      rw [toB_size]
      intro h
      exact hx (List.eq_nil_of_length_eq_zero h)
  have h2 := whole_run ((fullW size body.data.toList).1 ++ [(fullW size body.data.toList).2]) trs (by
    rw [List.flatten_append, List.flatten_cons, List.flatten_nil, List.append_nil, h1, blen]; omega) hw hz r
  rw [List.flatten_append, List.flatten_cons, List.flatten_nil, List.append_nil, h1, pcsL_app, ← hp] at h2
  have hl : (putE size body).data.toList = pcsL (fullW size body.data.toList).1 := by unfold putE; rw [toB_l]
  obtain ⟨X, i1, i2, i3⟩ := h2
  refine ⟨X, ?_, i2, i3⟩
  rw [app_l', app_l', hl, List.append_assoc, List.append_assoc]
  rw [List.append_assoc] at i1
  rw [i1, app_size, app_size, ← blen (putE size body), ← blen (pieceW (restE size body)), hl, List.length_append]
  rw [Nat.add_assoc]
end Go.Proofs.YtookaenbpfpegaaDoor
