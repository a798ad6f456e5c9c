/- The last chunk, and trailers: by the program and by the document. No statement of its own. -/
import Derived.Test.YtookaenbpfpegaaDoorCk
import Derived.Test.YtookaenbpfpegaaDoorFd
import Derived.Test.YtookaenbpfpegaaDoorWk
set_option linter.unusedSimpArgs false
set_option linter.unusedVariables false
set_option maxRecDepth 100000
namespace Go.Proofs.YtookaenbpfpegaaDoor
open Go.RowKit
theorem strL_snoc (l : List ByteArray) (x : ByteArray) : strL l ++ [[.s x]] = strL (l ++ [x]) := by simp [strL]
/-- a row that is being built, out of one with something in it -/
inductive AccT (n : Nat) (tk : List Nat) (sz : Nat) : AV → List (List AV) → Prop
  | tight (e : List AV) (es : List (List AV)) : AccT n tk sz (.sl .tight sz (e :: es)) (e :: es)
  | own (t e : Nat) (es : List (List AV)) (hn : n ≤ t) (ht : tk[t]? = some e) : AccT n tk sz (.sl (.own t e) sz es) es
theorem AccT.form {n : Nat} {tk : List Nat} {sz : Nat} {a : AV} {es : List (List AV)} (h : AccT n tk sz a es) : a = .sl .tight sz es ∨ ∃ t e, a = .sl (.own t e) sz es := by
  cases h with
  | tight e es => exact .inl rfl
  | own t e es hn ht => exact .inr ⟨t, e, rfl⟩
theorem AccT.app {n : Nat} {st : St} {i : TI} {a : AV} {es ys : List (List AV)} {tg : Tk} {K : AV → St → Prop} (h : AccT n st.tk i.size a es) (hn : n ≤ st.tk.length) (hy : ys ≠ []) (hb : (es.length + ys.length) * i.bytes ≤ 140737488355328) (hm : es.length + ys.length ≤ maxLen)
    (hK : ∀ t e tk', n ≤ t → tk'[t]? = some e → n ≤ tk'.length → (∀ t, t < n → tk'[t]? = st.tk[t]?) → K (.sl (.own t e) i.size (es ++ ys)) ⟨st.heap, tk'⟩) : vcApp i a (.sl tg i.size ys) st K := by
  unfold vcApp srcA
  simp only [decide_true]
  cases h with
  | tight e es =>
    simp only [decide_true]
    refine ⟨fun e => absurd e hy, fun _ => ⟨hb, hm, ?_⟩⟩
    refine hK _ _ _ hn (by simp) (by simp; omega) (fun t ht => ?_)
    rw [List.getElem?_append_left (by omega)]
  | own t e es h1 h2 =>
    simp only [decide_true]
    have hlt := (List.getElem?_eq_some_iff.1 h2).1
    refine ⟨h2, hb, hm, hK _ _ _ h1 (by rw [List.getElem?_set_self hlt]) (by simpa using hn) (fun t' ht' => ?_)⟩
    rw [List.getElem?_set_ne (by omega)]
theorem add_empB (s : ByteArray) : s ++ (⟨#[]⟩ : ByteArray) = s := ByteArray.append_empty
def lastE : List Fld → Int
  | [] => 0
  | f :: r => if checkF f ≠ 0 then checkF f else lastE r
theorem lastE_at {l : List Fld} {k : Nat} (h : k < l.length) : lastE (l.drop k) = if checkF l[k] ≠ 0 then checkF l[k] else lastE (l.drop (k + 1)) := by
  rw [List.drop_eq_getElem_cons h, lastE]
def lastB (l : List Fld) : ByteArray := l.foldl (fun s f => s ++ lineF f ++ crlf) ⟨#[48, 13, 10]⟩
theorem lastB_at {l : List Fld} {k : Nat} (h : k < l.length) : lastB (l.take (k + 1)) = lastB (l.take k) ++ lineF l[k] ++ crlf := by
  rw [List.take_succ_eq_append_getElem h]
  unfold lastB
  rw [List.foldl_append]
  rfl
def lastW (l : List Fld) : ByteArray × Int := if lastE l ≠ 0 then (⟨#[]⟩, lastE l) else if 100 < l.length then (⟨#[]⟩, 3) else (lastB l ++ crlf, 0)
theorem lastB_size {l : List Fld} (h : ∀ f ∈ l, f.1.size ≤ 1100000 ∧ f.2.size ≤ 1100000) : ∀ k, k ≤ l.length → (lastB (l.take k)).size ≤ 3 + k * 2200004
  | 0, _ => Nat.le_refl _
  | k + 1, hk => by
    have := lastB_size h k (by omega)
    have := lineF_size l[k]
    have := h _ (List.getElem_mem (show k < l.length by omega))
    rw [lastB_at (by omega), app_size, app_size, crlf_size]
    omega
def lineL (l : List Fld) : List ByteArray := ⟨#[48]⟩ :: l.map lineF
theorem lineL_len (l : List Fld) : (lineL l).length = l.length + 1 := by simp [lineL]
theorem lineL_at {l : List Fld} {k : Nat} (h : k < l.length) : lineL (l.take (k + 1)) = lineL (l.take k) ++ [lineF l[k]] := by
  rw [List.take_succ_eq_append_getElem h]
  unfold lineL
  rw [List.map_append]
  rfl
theorem joinC_last (l : List Fld) : ∀ k, k ≤ l.length → joinC crlf (lineL (l.take k)) ++ crlf = lastB (l.take k)
  | 0, _ => by
    show joinC crlf [⟨#[48]⟩] ++ crlf = _
    rw [joinC_one]
    rfl
  | k + 1, hk => by
    rw [lineL_at (by omega), joinC_snoc _ (lineL (l.take k)) _ (List.cons_ne_nil _ _), lastB_at (by omega), ← joinC_last l k (by omega)]
theorem joinC_end (l : List Fld) : joinC crlf (lineL l ++ [⟨#[]⟩, ⟨#[]⟩]) = lastB l ++ crlf := by
  have h := joinC_last l l.length (Nat.le_refl _)
  rw [List.take_of_length_le (Nat.le_refl _)] at h
  rw [show lineL l ++ [⟨#[]⟩, ⟨#[]⟩] = (lineL l ++ [⟨#[]⟩]) ++ [⟨#[]⟩] by simp, joinC_snoc _ _ _ (by simp), joinC_snoc _ (lineL l) _ (List.cons_ne_nil _ _), add_empB, add_empB, h]
section
attribute [local irreducible] vcApp
end
theorem lastW_nil : lastW [] = (⟨#[48, 13, 10, 13, 10]⟩, 0) := by
  unfold lastW
  rw [if_neg (fun h => h rfl), if_neg (by simp)]
  rfl
theorem fldL_cut (l : List Fld) (m : Nat) : ((fldL l).drop 0).take (m - 0) = fldL (l.take m) := by simp [fldL]
end Go.Proofs.YtookaenbpfpegaaDoor
