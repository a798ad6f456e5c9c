/- What becomes of a body, in plain words; a body of any frame, piece by piece. No statement of its own. -/
import Derived.Test.YtookaenbpfpegaaDoorBz
import Derived.Test.YtookaenbpfpegaaDoorPs
set_option linter.unusedSimpArgs false
set_option linter.unusedVariables false
set_option maxRecDepth 100000
namespace Go.Proofs.YtookaenbpfpegaaDoor
open Go.RowKit
theorem stepD_dn {L : Nat} {d : Dc} {b : UInt8} (h : (stepD L d b).2.2.1 = true) : (stepD L d b).2.2.2 = 0 := by
  unfold stepD at h ⊢
  split at h
  · rename_i h1; rw [if_pos h1]
  rename_i h1
  rw [if_neg h1]
  split at h
  · rename_i h2
    split at h <;> (split at h <;> cases h)
  rename_i h2
  rw [if_neg h2]
  dsimp only at h ⊢
  unfold linedD at h ⊢
  split at h
  · cases h
  rename_i h3
  rw [if_neg h3]
  split at h
  · cases h
  rename_i h4
  rw [if_neg h4]
  split at h
  · cases h
  rename_i h5
  rw [if_neg h5]
  unfold endD at h ⊢
  split at h
  · cases h
  rename_i h6
  rw [if_neg h6]
  unfold trailD at h ⊢
  split at h
  · rename_i h7; rw [if_pos h7]
  rename_i h7
  split at h
  · cases h
  rename_i h8
  split at h
  · cases h
  · cases h
theorem runD_dn {L : Nat} : ∀ (l : List UInt8) (d : Dc), (runD L d l).dn = true → (runD L d l).e = 0
  | [], d, h => by cases h
  | b :: r, d, h => by
    rw [runD] at h ⊢
    split at h
    · rename_i h1; rw [if_pos h1]; exact stepD_dn h
    · rename_i h1; rw [if_neg h1]; exact runD_dn r _ h
theorem runD_In {L : Nat} : ∀ (l : List UInt8) (d : Dc), d.In L → d.spent ≤ L → (runD L d l).dn = false → (runD L d l).e = 0 → (runD L d l).d.In L ∧ (runD L d l).d.spent ≤ L
  | [], d, hI, hs, _, _ => ⟨hI, hs⟩
  | b :: r, d, hI, hs, h1, h2 => by
    rw [runD] at h1 h2 ⊢
    split at h1
    · rename_i hf
      rw [if_pos hf] at h2
      exact absurd hf (fun h => h.elim (fun h => by have h1 : (stepD L d b).2.2.1 = false := h1; rw [h1] at h; cases h) (fun h => h h2))
    · rename_i hf
      rw [if_neg hf] at h2 ⊢
      obtain ⟨i1, i2⟩ := stepD_In hI hs b hf
      exact runD_In r _ i1 i2 h1 h2
theorem runD_ole {L : Nat} : ∀ (l : List UInt8) (d : Dc), (runD L d l).o.length ≤ (runD L d l).n
  | [], d => Nat.le_refl _
  | b :: r, d => by
    have ho : (stepD L d b).2.1.length ≤ 1 := by
      unfold stepD
      split
      · exact Nat.le_refl _
      split
      · split <;> (split <;> exact Nat.zero_le _)
      · exact Nat.zero_le _
    rw [runD]
    split
    · exact ho
    · have := runD_ole (L := L) r (stepD L d b).1
      show (List.append _ _).length ≤ _ + 1
      rw [List.append_eq, List.length_append]; omega
theorem step3 {L : Nat} {d : Dc} (ha : d.a = 3) (b : UInt8) : (stepD L d b).2.1 = [] ∧ (stepD L d b).1.a = 3 := by
  have e1 : d.spend.a = 3 := by unfold Dc.spend; split <;> exact ha
  unfold stepD
  rw [if_neg (by omega), if_neg (by omega)]
  refine ⟨rfl, ?_⟩
  show (linedD L d.spend b).1.a = 3
  unfold linedD
  split
  · exact e1
  split
  · exact e1
  split
  · exact e1
  unfold endD
  rw [if_neg (by show ¬ d.spend.a = 0; omega)]
  unfold trailD
  split
  · exact e1
  split
  · exact e1
  split
  · exact e1
  · exact e1
theorem run3 {L : Nat} : ∀ (l : List UInt8) (d : Dc), d.a = 3 → (runD L d l).o = []
  | [], d, _ => rfl
  | b :: r, d, ha => by
    obtain ⟨h1, h2⟩ := step3 (L := L) ha b
    rw [runD]
    split
    · exact h1
    · show (stepD L d b).2.1 ++ (runD L (stepD L d b).1 r).o = []
      rw [h1, run3 r _ h2]; rfl
def Rs.fate (r : Rs) : Int × Int × ByteArray × List Fld × Int := if r.dn = true ∨ r.e ≠ 0 then ((r.n : Nat), r.e, toB r.o, r.d.tr, 0) else (0, 0, toB r.o, r.d.tr, r.d.line.length)
theorem fate_ends {L : Nat} {d : Dc} (ha : d.a = 3) (i : Nat) (acc S : List UInt8) : ((runD L d (S.drop i)).more i acc).fate = ((fateE L d i S).1, (fateE L d i S).2.1, toB acc, (fateE L d i S).2.2.1, (fateE L d i S).2.2.2) := by
  have h3 := run3 (L := L) (S.drop i) d ha
  unfold Rs.fate fateE Rs.more
  dsimp only
  rw [h3, List.append_nil]
  split
  · rw [Nat.add_comm]
  · rfl
theorem runD_shut {L : Nat} : ∀ (l : List UInt8) (d : Dc), (runD L d l).dn = true ∨ (runD L d l).e ≠ 0 → (runD L d l).d.line = []
  | [], d, h => h.elim (fun h => by cases h) (fun h => absurd rfl h)
  | b :: r, d, h => by
    rw [runD] at h ⊢
    split at h
    · rename_i h1; rw [if_pos h1]; rfl
    · rename_i h1; rw [if_neg h1]; exact runD_shut r _ h
/-- of a frame: at how many bytes the body is done, or wrong (-1: neither), an error, the data, the trailers, how many bytes are kept -/
def fateF (k : Int) (n L : Nat) (s : List UInt8) : Int × Int × List UInt8 × List Fld × Int :=
  if k = 1 then (0, 0, [], [], 0) else if k = 2 then (if s.length < n then ((-1 : Int), (0 : Int), s, ([] : List Fld), (0 : Int)) else (((n : Nat) : Int), 0, s.take n, [], 0)) else if k = 4 then (-1, 0, s, [], 0)
  else if (runD L Dc.new s).dn = true ∨ (runD L Dc.new s).e ≠ 0 then ((((runD L Dc.new s).n : Nat) : Int), (runD L Dc.new s).e, (runD L Dc.new s).o, (runD L Dc.new s).d.tr, (0 : Int)) else ((-1 : Int), (0 : Int), (runD L Dc.new s).o, (runD L Dc.new s).d.tr, ((runD L Dc.new s).d.line.length : Int))
def doneF (F : Int × Int × List UInt8 × List Fld × Int) : Bool := decide (0 ≤ F.1 ∧ F.2.1 = 0)
/-- a body's variable, behind some bytes -/
inductive BQ (st : St) (p q L : Nat) (k : Int) (n : Nat) (P : List UInt8) : Prop
  | none (hk : k = 1) (h : st.heap[p]? = some [.nilP, .i 1, .i n, .i n, .b true, .b false])
  | len (hk : k = 2) (h : st.heap[p]? = some [.nilP, .i 2, .i n, .i (n - P.length : Nat), .b (decide (n - P.length = 0)), .b false])
  | close (hk : k = 4) (h : st.heap[p]? = some [.nilP, .i 4, .i n, .i n, .b false, .b false])
  | chunk (hk : k = 3) (ln tr : AV) (hB : BI st p q 3 n n L (runD L Dc.new P).dn ((runD L Dc.new P).e != 0) (runD L Dc.new P).d ln tr)
structure Kq (p q : Nat) (st st' : St) : Prop where
  len : st.heap.length ≤ st'.heap.length
  heap : ∀ r, r < st.heap.length → r ≠ p → r ≠ q → st'.heap[r]? = st.heap[r]?
theorem Kq.refl (p q : Nat) (st : St) : Kq p q st st := ⟨Nat.le_refl _, fun _ _ _ _ => rfl⟩
theorem Kq.trans {p q : Nat} {a b c : St} (h : Kq p q a b) (g : Kq p q b c) : Kq p q a c :=
  ⟨Nat.le_trans h.len g.len, fun r h1 h2 h3 => (g.heap r (Nat.lt_of_lt_of_le h1 h.len) h2 h3).trans (h.heap r h1 h2 h3)⟩
theorem BQ.keep {st st' : St} {p q L n : Nat} {k : Int} {P : List UInt8} (h : BQ st p q L k n P) (h1 : st'.heap[p]? = st.heap[p]?) (h2 : q < st.heap.length → st'.heap[q]? = st.heap[q]?) (h3 : ∀ t, t < st.tk.length → st'.tk[t]? = st.tk[t]?) : BQ st' p q L k n P := by
  cases h with
  | none hk h => exact .none hk (h1.trans h)
  | len hk h => exact .len hk (h1.trans h)
  | close hk h => exact .close hk (h1.trans h)
  | chunk hk ln tr hB =>
    refine .chunk hk ln tr ⟨h1.trans hB.h, ⟨(h2 (lt_of hB.d.h)).trans hB.d.h, ?_, ?_, hB.d.ne, hB.d.nz⟩, hB.ne⟩
    · exact hB.d.l.keep fun t ht => h3 t (hB.d.tkl ht)
    · exact hB.d.t.keep fun t ht => h3 t (hB.d.tkt' ht)
theorem fin_dec {r : Rs} (h : ¬ (r.dn = true ∨ r.e ≠ 0)) : r.dn = false ∧ r.e = 0 :=
  ⟨by cases hd : r.dn with | false => rfl | true => exact absurd (.inl hd) h, Decidable.not_not.1 fun e => h (.inr e)⟩
theorem fate3 (n L : Nat) (s : List UInt8) : fateF 3 n L s = if (runD L Dc.new s).dn = true ∨ (runD L Dc.new s).e ≠ 0 then ((((runD L Dc.new s).n : Nat) : Int), (runD L Dc.new s).e, (runD L Dc.new s).o, (runD L Dc.new s).d.tr, (0 : Int)) else ((-1 : Int), (0 : Int), (runD L Dc.new s).o, (runD L Dc.new s).d.tr, ((runD L Dc.new s).d.line.length : Int)) := by
  unfold fateF
  rw [if_neg (by decide), if_neg (by decide), if_neg (by decide)]
theorem fate2 (n L : Nat) (s : List UInt8) : fateF 2 n L s = if s.length < n then ((-1 : Int), (0 : Int), s, ([] : List Fld), (0 : Int)) else (((n : Nat) : Int), 0, s.take n, [], 0) := by
  unfold fateF
  rw [if_neg (by decide), if_pos rfl]
theorem fate1 (n L : Nat) (s : List UInt8) : fateF 1 n L s = (0, 0, [], [], 0) := rfl
theorem fate4 (n L : Nat) (s : List UInt8) : fateF 4 n L s = (-1, 0, s, [], 0) := rfl
theorem done3 (n L : Nat) (s : List UInt8) : doneF (fateF 3 n L s) = (runD L Dc.new s).dn := by
  have h := runD_dn (L := L) s Dc.new
  rw [fate3]
  unfold doneF
  split
  · rename_i hf
    rw [Bool.eq_iff_iff, decide_eq_true_eq]
    exact ⟨fun ⟨_, e⟩ => hf.elim id (fun h => absurd e h), fun e => ⟨by show (0 : Int) ≤ ((runD L Dc.new s).n : Nat); omega, h e⟩⟩
  · rename_i hf
    rw [(fin_dec hf).1]
    rfl
section
attribute [local irreducible] vcApp
variable {st : St} {p q L n : Nat} {k : Int} {P : List UInt8} {R : AV → St → Prop}
theorem doneQ (hQ : BQ st p q L k n P) (hR : R (.b (doneF (fateF k n L P))) st) : ACalls Tryd.prog 10 [.ptr p 0] st R := by
  cases hQ with
  | none hk h =>
    subst hk
    exact doneB_a (.inl rfl) h hR
  | len hk h =>
    subst hk
    have e : doneF (fateF 2 n L P) = decide (n - P.length = 0) := by
      rw [fate2]
      unfold doneF
      rw [Bool.eq_iff_iff, decide_eq_true_eq, decide_eq_true_eq]
      split
      · rename_i h1
        exact ⟨fun h => absurd h.1 (show ¬ (0 : Int) ≤ -1 by decide), fun h => by omega⟩
      · rename_i h1
        exact ⟨fun h => by omega, fun h => ⟨by show (0 : Int) ≤ (n : Nat); omega, rfl⟩⟩
    rw [e] at hR
    exact doneB_a (.inl rfl) h hR
  | close hk h =>
    subst hk
    exact doneB_a (.inl rfl) h hR
  | chunk hk ln tr hB =>
    subst hk
    rw [done3] at hR
    exact doneB_a (.inr ⟨q, rfl⟩) hB.h hR
theorem keptQ (hQ : BQ st p q L k n P) (hR : R (.i (fateF k n L P).2.2.2.2) st) : ACalls Tryd.prog 14 [.ptr p 0] st R := by
  cases hQ with
  | none hk h =>
    subst hk
    refine ACalls.of_vc T_ok mixed Tryd.func14 rfl Tryd.call14 ?_
    refine ⟨_, h, ?_⟩
    refine .s (keptD_nil ?_)
    exact hR
  | len hk h =>
    subst hk
    have e : (fateF 2 n L P).2.2.2.2 = 0 := by rw [fate2]; split <;> rfl
    rw [e] at hR
    refine ACalls.of_vc T_ok mixed Tryd.func14 rfl Tryd.call14 ?_
    refine ⟨_, h, ?_⟩
    refine .s (keptD_nil ?_)
    exact hR
  | close hk h =>
    subst hk
    refine ACalls.of_vc T_ok mixed Tryd.func14 rfl Tryd.call14 ?_
    refine ⟨_, h, ?_⟩
    refine .s (keptD_nil ?_)
    exact hR
  | chunk hk ln tr hB =>
    subst hk
    have e : (fateF 3 n L P).2.2.2.2 = (runD L Dc.new P).d.line.length := by
      rw [fate3]
      split
      · rename_i hf
        rw [runD_shut P Dc.new hf]; rfl
      · rfl
    rw [e] at hR
    refine ACalls.of_vc T_ok mixed Tryd.func14 rfl Tryd.call14 ?_
    refine ⟨_, hB.h, ?_⟩
    refine .s (keptD_a hB.d ?_)
    exact hR
/-- what stands for the trailers -/
def TrF (a : AV) (l : List Fld) : Prop := (a = .nilS ∧ l = []) ∨ (a = .sl .tight 2 [] ∧ l = []) ∨ ∃ t e, a = .sl (.own t e) 2 (fldL l)
theorem trlQ (hQ : BQ st p q L k n P) (hI : (runD L Dc.new P).d.tr.length ≤ 1000000) (hR : ∀ a tk', st.tk.length ≤ tk'.length → (∀ t, t < st.tk.length → tk'[t]? = st.tk[t]?) → TrF a (fateF k n L P).2.2.2.1 → R a ⟨st.heap, tk'⟩) : ACalls Tryd.prog 16 [.ptr p 0] st R := by
  cases hQ with
  | none hk h =>
    subst hk
    refine ACalls.of_vc T_ok mixed Tryd.func16 rfl Tryd.call16 ?_
    refine ⟨_, h, ?_⟩
    refine .s (trlD_nil ?_)
    exact hR _ _ (Nat.le_refl _) (fun _ _ => rfl) (.inl ⟨rfl, rfl⟩)
  | len hk h =>
    subst hk
    have e : (fateF 2 n L P).2.2.2.1 = [] := by rw [fate2]; split <;> rfl
    rw [e] at hR
    refine ACalls.of_vc T_ok mixed Tryd.func16 rfl Tryd.call16 ?_
    refine ⟨_, h, ?_⟩
    refine .s (trlD_nil ?_)
    exact hR _ _ (Nat.le_refl _) (fun _ _ => rfl) (.inl ⟨rfl, rfl⟩)
  | close hk h =>
    subst hk
    refine ACalls.of_vc T_ok mixed Tryd.func16 rfl Tryd.call16 ?_
    refine ⟨_, h, ?_⟩
    refine .s (trlD_nil ?_)
    exact hR _ _ (Nat.le_refl _) (fun _ _ => rfl) (.inl ⟨rfl, rfl⟩)
  | chunk hk ln tr hB =>
    subst hk
    have e : (fateF 3 n L P).2.2.2.1 = (runD L Dc.new P).d.tr := by
      rw [fate3]
      split <;> rfl
    rw [e] at hR
    refine ACalls.of_vc T_ok mixed Tryd.func16 rfl Tryd.call16 ?_
    refine ⟨_, hB.h, ?_⟩
    refine .s (trlD_a hB.d hI (fun h0 => ?_) (fun t e tk' h1 h2 => ?_))
    · exact hR _ _ (Nat.le_refl _) (fun _ _ => rfl) (.inr (.inl ⟨rfl, h0⟩))
    · exact hR _ _ h1 h2 (.inr (.inr ⟨_, _, rfl⟩))
theorem endQ (hQ : BQ st p q L k n P) (hR : ∀ w, w = (doneF (fateF k n L P) || decide (k = 4)) → ∀ st', (∀ r, r < st.heap.length → r ≠ p → st'.heap[r]? = st.heap[r]?) → (∃ x l d e, st'.heap[p]? = some [x, .i k, .i n, .i (l : Nat), .b d, .b e] ∧ d = w ∧ (x = .nilP ∨ ∃ q, x = .ptr q 0)) → R (.tup [.b w, .i (if w = true then 0 else 6)]) st') : ACalls Tryd.prog 17 [.ptr p 0] st R := by
  cases hQ with
  | none hk h =>
    subst hk
    have hR := hR true rfl st (fun _ _ _ => rfl) ⟨_, _, _, _, h, rfl, .inl rfl⟩
    refine ACalls.of_vc T_ok mixed Tryd.func17 rfl Tryd.call17 ?_
    refine ⟨_, h, ?_⟩
    refine ⟨_, h, ?_⟩
    exact hR
  | len hk h =>
    subst hk
    have e : (doneF (fateF 2 n L P) || decide ((2 : Int) = 4)) = decide (n - P.length = 0) := by
      rw [fate2]
      unfold doneF
      rw [decide_eq_false (p := (2 : Int) = 4) (by decide), Bool.or_false, Bool.eq_iff_iff, decide_eq_true_eq, decide_eq_true_eq]
      split
      · exact ⟨fun h => absurd h.1 (show ¬ (0 : Int) ≤ -1 by decide), fun h => by omega⟩
      · exact ⟨fun h => by omega, fun h => ⟨by show (0 : Int) ≤ (n : Nat); omega, rfl⟩⟩
    have hR := hR _ rfl st (fun _ _ _ => rfl) ⟨_, _, _, _, h, e.symm, .inl rfl⟩
    rw [e] at hR
    generalize decide (n - P.length = 0) = w at h hR
    refine ACalls.of_vc T_ok mixed Tryd.func17 rfl Tryd.call17 ?_
    refine ⟨_, h, ?_⟩
    refine ⟨_, h, ?_⟩
    cases w with
    | true => exact hR
    | false => exact hR
  | close hk h =>
    subst hk
    have hR := hR true rfl ⟨st.heap.set p [.nilP, .i 4, .i n, .i n, .b true, .b false], st.tk⟩ (fun r _ hr => List.getElem?_set_ne (Ne.symm hr)) ⟨_, _, _, _, st_eq h, rfl, .inl rfl⟩
    exact endB_close h hR
  | chunk hk ln tr hB =>
    subst hk
    have e : (doneF (fateF 3 n L P) || decide ((3 : Int) = 4)) = (runD L Dc.new P).dn := by
      rw [done3, decide_eq_false (p := (3 : Int) = 4) (by decide), Bool.or_false]
    have h := hB.h
    have hR := hR _ rfl st (fun _ _ _ => rfl) ⟨_, _, _, _, h, e.symm, .inr ⟨q, rfl⟩⟩
    rw [e] at hR
    generalize (runD L Dc.new P).dn = w at h hR
    refine ACalls.of_vc T_ok mixed Tryd.func17 rfl Tryd.call17 ?_
    refine ⟨_, h, ?_⟩
    refine ⟨_, h, ?_⟩
    cases w with
    | true => exact hR
    | false => exact hR
theorem feedB_fin {x : AV} {left : Nat} {dn er : Bool} {k n : Int} {s : ByteArray} (hx : x = .nilP ∨ ∃ q, x = .ptr q 0) (hf : (dn || er) = true) (h : st.heap[p]? = some [x, .i k, .i n, .i left, .b dn, .b er]) (hR : R (.tup [.i 0, .s ⟨#[]⟩, .b false, .i 8]) st) : ACalls Tryd.prog 13 [.ptr p 0, .s s] st R := by
  cases dn with
  | true => exact feedB_done hx h hR
  | false =>
    obtain rfl : er = true := hf
    rcases hx with rfl | ⟨q, rfl⟩
    all_goals
      refine ACalls.of_vc T_ok mixed Tryd.func13 rfl Tryd.call13 ?_
      refine ⟨_, h, ?_⟩
      refine ⟨_, h, ?_⟩
      exact hR
theorem feedQ (hQ : BQ st p q L k n P) (hL : L ≤ 65536) (hn : n ≤ 1099511627776) (y : ByteArray) (hy : y.size ≤ 70000000000000)
    (h1 : 0 ≤ (fateF k n L P).1 → BQ st p q L k n (P ++ y.data.toList) → fateF k n L (P ++ y.data.toList) = fateF k n L P → R (.tup [.i 0, .s ⟨#[]⟩, .b false, .i 8]) st)
    (h2 : (fateF k n L P).1 < 0 → ∀ st' (m : Nat) (o : ByteArray) F, fateF k n L (P ++ y.data.toList) = F → BQ st' p q L k n (P ++ y.data.toList) → Kq p q st st' → m ≤ y.size → (0 ≤ F.1 → F.1 = ((P.length + m : Nat) : Int)) → (F.1 < 0 → m = y.size) → (fateF k n L P).2.2.1 ++ o.data.toList = F.2.2.1 → R (.tup [.i m, .s o, .b (doneF F), .i F.2.1]) st') :
    ACalls Tryd.prog 13 [.ptr p 0, .s y] st R := by
  have hbl := blen y
  have hkq : ∀ x, Kq p q st ⟨st.heap.set p x, st.tk⟩ := fun x => ⟨by simp, fun r _ h _ => List.getElem?_set_ne (Ne.symm h)⟩
  cases hQ with
  | none hk h =>
    subst hk
    exact feedB_done (.inl rfl) h (h1 (by rw [fate1]; exact Int.le_refl _) (.none rfl h) rfl)
  | len hk h =>
    subst hk
    by_cases h0 : n - P.length = 0
    · have e1 : fateF 2 n L P = (((n : Nat) : Int), 0, P.take n, [], 0) := by rw [fate2, if_neg (by omega)]
      have e2 : fateF 2 n L (P ++ y.data.toList) = (((n : Nat) : Int), 0, P.take n, [], 0) := by rw [fate2, if_neg (by rw [List.length_append]; omega), List.take_append_of_le_length (by omega)]
      have hb : BQ st p q L 2 n (P ++ y.data.toList) := .len rfl (by
        have e3 : n - (P ++ y.data.toList).length = n - P.length := by rw [List.length_append]; omega
        rw [e3]; exact h)
      rw [decide_eq_true h0] at h
      exact feedB_done (.inl rfl) h (h1 (by rw [e1]; show (0 : Int) ≤ (n : Nat); omega) hb (e2.trans e1.symm))
    · have e1 : fateF 2 n L P = (-1, 0, P, [], 0) := by rw [fate2, if_pos (by omega)]
      rw [decide_eq_false h0] at h
      refine feedB_len (left := n - P.length) y (by omega) hy h (fun m hm => ?_)
      have hl : (P ++ y.data.toList).length = P.length + y.size := by rw [List.length_append, hbl]
      have e3 : n - (P ++ y.data.toList).length = n - P.length - m := by omega
      have hb : BQ ⟨st.heap.set p [.nilP, .i 2, .i n, .i (n - P.length - m : Nat), .b (decide (n - P.length - m = 0)), .b false], st.tk⟩ p q L 2 n (P ++ y.data.toList) := .len rfl (by
        rw [e3]; exact st_eq h)
      have hx : (y.extract 0 m).data.toList = y.data.toList.take m := by rw [extB, List.drop_zero]
      have e2 := fate2 n L (P ++ y.data.toList)
      have hd : doneF (fateF 2 n L (P ++ y.data.toList)) = decide (n - P.length - m = 0) := by
        rw [e2]
        unfold doneF
        rw [Bool.eq_iff_iff, decide_eq_true_eq, decide_eq_true_eq]
        split
        · exact ⟨fun h => absurd h.1 (show ¬ (0 : Int) ≤ -1 by decide), fun h => by omega⟩
        · exact ⟨fun h => by omega, fun h => ⟨by show (0 : Int) ≤ (n : Nat); omega, rfl⟩⟩
      have := h2 (by rw [e1]; show (-1 : Int) < 0; decide) _ m (y.extract 0 m) _ rfl hb (hkq _) (by omega) (fun hge => ?_) (fun hlt => ?_) ?_
      · rw [hd] at this
        have e4 : (fateF 2 n L (P ++ y.data.toList)).2.1 = 0 := by rw [e2]; split <;> rfl
        rw [e4] at this
        exact this
      · rw [e2] at hge ⊢
        split
        · rename_i h9; rw [if_pos h9] at hge; exact absurd hge (by show ¬ (0 : Int) ≤ -1; decide)
        · show (n : Int) = _; omega
      · rw [e2] at hlt
        split at hlt
        · omega
        · exact absurd hlt (by show ¬ ((n : Nat) : Int) < 0; omega)
      · rw [e1, e2, hx]
        split
        · show P ++ _ = P ++ _
          rw [List.take_of_length_le (by omega)]
        · show P ++ _ = (P ++ _).take n
          rw [List.take_append, List.take_of_length_le (l := P) (by omega)]
          congr 1
          by_cases hc : n - P.length ≤ y.size
          · congr 1; omega
          · rw [List.take_of_length_le (by omega), List.take_of_length_le (by omega)]
  | close hk h =>
    subst hk
    refine feedB_close y hy h ?_
    have hx : (y.extract 0 y.size).data.toList = y.data.toList := by rw [extB, List.drop_zero, ← hbl, List.take_length]
    exact h2 (by rw [fate4]; show (-1 : Int) < 0; decide) _ y.size _ _ rfl (.close rfl h) (.refl _ _ _) (Nat.le_refl _) (fun h => absurd h (by rw [fate4]; show ¬ (0 : Int) ≤ -1; decide)) (fun _ => rfl) (by rw [fate4, fate4, hx])
  | chunk hk ln tr hB =>
    subst hk
    obtain ⟨r, hr⟩ : ∃ r, runD L Dc.new P = r := ⟨_, rfl⟩
    have e1 := fate3 n L P
    have e2 := fate3 n L (P ++ y.data.toList)
    have hd := done3 n L (P ++ y.data.toList)
    by_cases hf : r.dn = true ∨ r.e ≠ 0
    · obtain ⟨f1, f2, f3⟩ := runD_fin (L := L) P y.data.toList Dc.new (by rw [hr]; exact hf)
      have hb : BQ st p q L 3 n (P ++ y.data.toList) := .chunk rfl ln tr (by rw [f1]; exact hB)
      have h := hB.h
      rw [hr] at h
      refine feedB_fin (.inr ⟨q, rfl⟩) ?_ h (h1 ?_ hb (by rw [e1, e2, f1]))
      · rcases hf with hf | hf
        · rw [hf]; rfl
        · rw [bne_iff_ne.2 hf, Bool.or_true]
      · rw [e1, hr, if_pos hf]; show (0 : Int) ≤ (r.n : Nat); omega
    · obtain ⟨g1, g2⟩ := fin_dec hf
      have hB' : BI st p q 3 n n L false false r.d ln tr := by
        have := hB
        rw [hr, g1, g2] at this
        exact this
      obtain ⟨i1, i2⟩ := runD_In P Dc.new (Dc.new_In L) (Nat.zero_le _) (by rw [hr]; exact g1) (by rw [hr]; exact g2)
      rw [hr] at i1 i2
      obtain ⟨a1, a2⟩ := runD_app (L := L) P y.data.toList Dc.new (by rw [hr]; exact g1) (by rw [hr]; exact g2)
      rw [hr] at a2
      refine feedB_chunk hB' i1 i2 hL y hy (fun st' s1 ln' tr' o x hx ho hb kp he => ?_)
      rw [hx] at a2
      rw [a2] at e2 hd
      have hle := runD_le (L := L) y.data.toList r.d
      rw [hx, hbl] at hle
      have hnx : ¬ (x.dn = true ∨ x.e ≠ 0) → x.n = y.size := fun h => by
        obtain ⟨b1, b2⟩ := fin_dec h
        have := (runD_app (L := L) y.data.toList [] r.d (by rw [hx]; exact b1) (by rw [hx]; exact b2)).1
        rw [hx, hbl] at this
        exact this
      have hkq2 : Kq p q st st' := by
        subst he
        exact ⟨by show _ ≤ (s1.heap.set _ _).length; rw [List.length_set]; exact kp.len, fun r h1 h2 h3 => (List.getElem?_set_ne (Ne.symm h2)).trans (kp.heap r h1 h3)⟩
      have hbq : BQ st' p q L 3 n (P ++ y.data.toList) := .chunk rfl ln' tr' (by rw [a2]; exact hb)
      have := h2 (by rw [e1, hr, if_neg hf]; show (-1 : Int) < 0; decide) st' x.n o _ rfl hbq hkq2 hle (fun hge => ?_) (fun hlt => ?_) ?_
      · rw [hd] at this
        have e4 : (fateF 3 n L (P ++ y.data.toList)).2.1 = x.e := by
          rw [e2]
          split
          · rfl
          · rename_i h9
            exact (fin_dec (r := x) h9).2.symm
        rw [e4] at this
        exact this
      · rw [e2] at hge ⊢
        split
        · show ((x.n + P.length : Nat) : Int) = _; omega
        · rename_i h9; rw [if_neg h9] at hge; exact absurd hge (by show ¬ (0 : Int) ≤ -1; decide)
      · rw [e2] at hlt
        split at hlt
        · exact absurd hlt (by show ¬ ((x.n + P.length : Nat) : Int) < 0; omega)
        · rename_i h9; exact hnx h9
      · have e5 : (fateF 3 n L P).2.2.1 = r.o := by rw [e1, hr]; split <;> rfl
        have e6 : (fateF 3 n L (P ++ y.data.toList)).2.2.1 = r.o ++ x.o := by rw [e2]; split <;> rfl
        rw [e5, e6, ho]
end
end Go.Proofs.YtookaenbpfpegaaDoor
