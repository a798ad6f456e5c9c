/- Programs of rules, line by line: plain words. No program in sight. -/
import Derived.Test.YtgaidgblihnldaaGreatDoorR7
import Derived.Test.YtgaidgblihnldaaGreatDoorRqt
import Derived.Test.YtgaidgblihnldaaGreatDoorOr
import Derived.Lib.SplitLaws
set_option linter.unusedSimpArgs false
set_option linter.unusedVariables false
set_option maxRecDepth 100000
namespace Go.Proofs.YtgaidgblihnldaaGreatDoor
open Go.RowKit
def rlL (l : List Rl) : List (List AV) := l.map Rl.cs
theorem rlL_len (l : List Rl) : (rlL l).length = l.length := by simp [rlL]
theorem rlL_at {l : List Rl} {k : Nat} (h : k < l.length) : (rlL l)[k]? = some l[k].cs := by simp [rlL, h]
theorem rlL_el (l : List Rl) : ∀ e ∈ rlL l, e.length = 8 ∧ e.all AV.flat = true := fun e he => by
  obtain ⟨o, _, rfl⟩ := List.mem_map.1 he
  exact ⟨rfl, rfl⟩
/-- may there be such rules? -/
def chkL : List Rl → Nat → Int × Int
  | [], _ => (0, 0)
  | r :: rs, i => if checkR r = 0 then chkL rs (i + 1) else ((i : Int), 9)
def checkL (l : List Rl) : Int × Int := if (chkL l 0).2 ≠ 0 then chkL l 0 else if l.length > 64 then (0, 3) else (0, 0)
theorem chkL_at {l : List Rl} {k : Nat} (h : k < l.length) : chkL (l.drop k) k = if checkR l[k] = 0 then chkL (l.drop (k + 1)) (k + 1) else ((k : Int), 9) := by
  rw [List.drop_eq_getElem_cons h, chkL]
theorem checkR_02 (r : Rl) : checkR r = 0 ∨ checkR r = 9 := by unfold checkR; split <;> simp
theorem chkL_all : ∀ (l : List Rl) (i : Nat), (chkL l i).2 = 0 ↔ ∀ r ∈ l, checkR r = 0
  | [], i => by simp [chkL]
  | r :: rs, i => by
    rw [chkL]
    by_cases h : checkR r = 0
    · rw [if_pos h, chkL_all rs (i + 1)]
      simp [h]
    · rw [if_neg h]
      simp [h]
theorem chkL_zero : ∀ (l : List Rl) (i : Nat), (∀ r ∈ l, checkR r = 0) → chkL l i = (0, 0)
  | [], i, _ => rfl
  | r :: rs, i, h => by
    rw [chkL, if_pos (h r List.mem_cons_self)]
    exact chkL_zero rs (i + 1) fun r hr => h r (List.mem_cons_of_mem _ hr)
theorem checkL_ok {l : List Rl} (h : (checkL l).2 = 0) : (∀ r ∈ l, checkR r = 0) ∧ l.length ≤ 64 := by
  unfold checkL at h
  split at h
  · rename_i h1; exact absurd h h1
  · rename_i h1
    split at h
    · cases h
    · exact ⟨(chkL_all l 0).1 (Decidable.not_not.1 h1), by omega⟩
theorem checkL_of {l : List Rl} (h : ∀ r ∈ l, checkR r = 0) (hl : l.length ≤ 64) : checkL l = (0, 0) := by
  unfold checkL
  rw [chkL_zero l 0 h, if_neg (by simp), if_neg (by omega)]
theorem rlL_snoc (l : List Rl) (o : Rl) : rlL l ++ [o.cs] = rlL (l ++ [o]) := by simp [rlL]

/-- what stands between a byte and the next one -/
def cutL (c : UInt8) : List UInt8 → List (List UInt8)
  | [] => [[]]
  | b :: r => if b = c then [] :: cutL c r else match cutL c r with
    | [] => [[b]]
    | h :: t => (b :: h) :: t
theorem cutL_miss {c : UInt8} : ∀ {l : List UInt8}, (∀ b ∈ l, b ≠ c) → cutL c l = [l]
  | [], _ => rfl
  | b :: r, h => by rw [cutL, if_neg (h b (.head _)), cutL_miss (fun x hx => h x (.tail _ hx))]
theorem cutL_hit {c : UInt8} {r : List UInt8} : ∀ {a : List UInt8}, (∀ b ∈ a, b ≠ c) → cutL c (a ++ c :: r) = a :: cutL c r
  | [], _ => by rw [List.nil_append, cutL, if_pos rfl]
  | b :: a, h => by rw [List.cons_append, cutL, if_neg (h b (.head _)), cutL_hit (fun x hx => h x (.tail _ hx))]
theorem index_app {c : UInt8} {r : List UInt8} : ∀ {a : List UInt8}, (∀ b ∈ a, b ≠ c) → Lib.index (a ++ c :: r) [c] = (a.length : Int)
  | [], _ => by rw [List.nil_append, Lib.index]; simp [List.isPrefixOf]
  | b :: a, h => by
    have hp : ([c] : List UInt8).isPrefixOf (b :: (a ++ c :: r)) = false := by simp [List.isPrefixOf, Ne.symm (h b (.head _))]
    have hix : Lib.index (b :: (a ++ c :: r)) [c] = if Lib.index (a ++ c :: r) [c] == -1 then -1 else Lib.index (a ++ c :: r) [c] + 1 := by rw [Lib.index, hp]; simp
    have ih := index_app (r := r) (a := a) (fun x hx => h x (.tail _ hx))
    rw [List.cons_append, hix, ih, if_neg (by rw [beq_iff_eq]; omega), List.length_cons]
    omega
theorem splitK_cut (c : UInt8) : ∀ (k : Nat) (s : List UInt8), Lib.count s [c] = k → Lib.splitK [c] 0 k s = cutL c s
  | 0, s, h => by
    rw [Lib.count_one] at h
    have h0 : ∀ b ∈ s, b ≠ c := fun b hb e => by subst e; exact List.count_eq_zero.1 h hb
    rw [cutL_miss h0]
    rfl
  | k + 1, s, h => by
    rw [Lib.count_one] at h
    have hm : c ∈ s := List.count_pos_iff.1 (by omega)
    obtain ⟨a, r, rfl, ha⟩ := List.eq_append_cons_of_mem hm
    have ha : ∀ b ∈ a, b ≠ c := fun b hb e => by subst e; exact ha hb
    have hix := index_app (r := r) ha
    have hr : Lib.count r [c] = k := by
      rw [Lib.count_one]
      rw [List.count_append, List.count_cons_self, List.count_eq_zero.2 (fun hc => ha c hc rfl)] at h
      omega
    have ih := splitK_cut c k r hr
    rw [cutL_hit ha, Lib.splitK, hix, if_neg (by rw [beq_iff_eq]; omega)]
    have e1 : ((a.length : Int)).toNat = a.length := Int.toNat_natCast _
    rw [e1, Nat.add_zero, List.take_left]
    have e2 : (a ++ c :: r).drop (a.length + ([c] : List UInt8).length) = r := by
      rw [show a ++ c :: r = (a ++ [c]) ++ r by simp]
      rw [show a.length + ([c] : List UInt8).length = (a ++ [c]).length by simp, List.drop_left]
    rw [e2, ih]
def linesB (s : ByteArray) : List ByteArray := (cutL 10 s.data.toList).map fun l => ⟨l.toArray⟩
theorem split_lines (s : ByteArray) : Lib.splitB ⟨#[10]⟩ 0 (Lib.countB s ⟨#[10]⟩) s = linesB s := by
  have h1 := Lib.splitB_data ⟨#[10]⟩ 0 (Lib.countB s ⟨#[10]⟩) s
  have h2 : Lib.splitK (⟨#[10]⟩ : ByteArray).data.toList 0 (Lib.countB s ⟨#[10]⟩) s.data.toList = cutL 10 s.data.toList := splitK_cut 10 _ s.data.toList rfl
  rw [h2] at h1
  unfold linesB
  rw [← h1, List.map_map]
  conv => lhs; rw [← List.map_id (Lib.splitB ⟨#[10]⟩ 0 (Lib.countB s ⟨#[10]⟩) s)]
  refine List.map_congr_left fun x _ => ?_
  rfl
theorem cutL_len (c : UInt8) : ∀ l : List UInt8, (cutL c l).length ≤ l.length + 1
  | [] => Nat.le_refl _
  | b :: r => by
    have := cutL_len c r
    rw [cutL]
    split
    · simp only [List.length_cons]; omega
    · split
      · simp
      · rename_i h t e
        rw [e] at this
        simp only [List.length_cons] at this ⊢
        omega
theorem cutL_size (c : UInt8) : ∀ l : List UInt8, ∀ x ∈ cutL c l, x.length ≤ l.length
  | [], x, hx => by
    have : x = [] := by simpa [cutL] using hx
    rw [this]; exact Nat.le_refl _
  | b :: r, x, hx => by
    have ih := cutL_size c r
    rw [cutL] at hx
    split at hx
    · rcases List.mem_cons.1 hx with rfl | hx
      · exact Nat.zero_le _
      · have := ih x hx; simp only [List.length_cons]; omega
    · split at hx
      · rename_i e
        have : x = [b] := by simpa using hx
        rw [this]; simp
      · rename_i h t e
        rcases List.mem_cons.1 hx with rfl | hx
        · have := ih h (by rw [e]; exact .head _)
          simp only [List.length_cons]; omega
        · have := ih x (by rw [e]; exact .tail _ hx)
          simp only [List.length_cons]; omega
theorem linesB_len (s : ByteArray) : (linesB s).length ≤ s.size + 1 := by
  have := cutL_len 10 s.data.toList
  rw [blen] at this
  unfold linesB
  rw [List.length_map]
  exact this
theorem linesB_size {s x : ByteArray} (h : x ∈ linesB s) : x.size ≤ s.size := by
  unfold linesB at h
  obtain ⟨l, hl, rfl⟩ := List.mem_map.1 h
  have := cutL_size 10 _ l hl
  rw [blen] at this
  show l.toArray.size ≤ _
  rw [List.size_toArray]
  exact this
/-- a program's rules, read line by line -/
def errA (x : ByteArray) (n : Nat) : Int := if (readRl x).2 = 0 ∧ n = 64 then 3 else (readRl x).2
def readA : List ByteArray → Nat → List Rl → List Rl × Int × Int
  | [], _, acc => (acc, 0, 0)
  | x :: r, i, acc => if skipB x = true then readA r (i + 1) acc else if errA x acc.length ≠ 0 then ([], ((i + 1 : Nat) : Int), errA x acc.length) else readA r (i + 1) (acc ++ [(readRl x).1])
def readP (s : ByteArray) : List Rl × Int × Int := if 1048576 < s.size then ([], 0, 3) else readA (linesB s) 0 []
theorem readA_at {L : List ByteArray} {k : Nat} (h : k < L.length) (acc : List Rl) : readA (L.drop k) k acc = if skipB L[k] = true then readA (L.drop (k + 1)) (k + 1) acc else if errA L[k] acc.length ≠ 0 then ([], ((k + 1 : Nat) : Int), errA L[k] acc.length) else readA (L.drop (k + 1)) (k + 1) (acc ++ [(readRl L[k]).1]) := by
  rw [List.drop_eq_getElem_cons h, readA]
/-- what is read of a written program -/
theorem text_skip {r : Rl} (h : checkR r = 0) : skipB (textB r) = false := by
  cases hs : skipB (textB r) with
  | false => rfl
  | true =>
    have h1 := skip_none hs
    rw [read_text h] at h1
    cases h1
theorem readA_back : ∀ (rest acc : List Rl) (i : Nat), (∀ r ∈ rest, checkR r = 0) → acc.length + rest.length ≤ 64 → readA (rest.map textB ++ [⟨#[]⟩]) i acc = (acc ++ rest, 0, 0)
  | [], acc, i, _, _ => by
    show readA [⟨#[]⟩] i acc = _
    rw [readA, if_pos (by kernel_rfl), readA, List.append_nil]
  | r :: rest, acc, i, h, hl => by
    have hc := h r (.head _)
    have hb := readA_back rest (acc ++ [r]) (i + 1) (fun x hx => h x (.tail _ hx)) (by simp only [List.length_append, List.length_cons, List.length_nil] at hl ⊢; omega)
    have he : errA (textB r) acc.length = 0 := by
      unfold errA
      rw [read_text hc, if_neg]
      rintro ⟨_, h64⟩
      simp only [List.length_cons] at hl
      omega
    rw [List.map_cons, List.cons_append, readA, if_neg (by rw [text_skip hc]; decide), he, if_neg (by decide), read_text hc, hb, List.append_assoc]
    rfl
theorem val10 : ∀ m : Nat, m < 256 → valI (m : Int) = true → m ≠ 10 := by decide +kernel
theorem val_no10 {b : UInt8} (h : valI (b.toNat : Int) = true) : b ≠ 10 := fun e => by
  subst e
  exact val10 10 (by decide) h rfl
theorem tokI_val : ∀ m : Nat, m < 256 → tokI (m : Int) = true → valI (m : Int) = true := by decide +kernel
theorem quoteL_mem {b : UInt8} : ∀ {l : List UInt8}, b ∈ quoteL l → b = 92 ∨ b ∈ l
  | [], h => by cases h
  | x :: l, h => by
    cases hq : qtI (x.toNat : Int) with
    | true =>
      rw [quoteL_yes l hq] at h
      rcases List.mem_cons.1 h with h | h
      · exact .inl h
      · rcases List.mem_cons.1 h with h | h
        · exact .inr (by rw [h]; exact .head _)
        · exact (quoteL_mem h).imp id (fun h => .tail _ h)
    | false =>
      rw [quoteL_no l hq] at h
      rcases List.mem_cons.1 h with h | h
      · exact .inr (by rw [h]; exact .head _)
      · exact (quoteL_mem h).imp id (fun h => .tail _ h)
theorem prt_val {w : Wd} (hw : WdOk w) : ∀ b ∈ prtW w, valI (b.toNat : Int) = true := by
  intro b hb
  obtain ⟨t, q⟩ := w
  cases q with
  | true =>
    have hw : allI valI t = true := hw
    have hb : b ∈ 34 :: (quoteL t.data.toList ++ [34]) := hb
    rcases List.mem_cons.1 hb with rfl | hb
    · rfl
    · rcases List.mem_append.1 hb with hb | hb
      · rcases quoteL_mem hb with rfl | hb
        · rfl
        · exact allI_mem hw b hb
      · simp only [List.mem_cons, List.mem_nil_iff, or_false] at hb
        subst hb; rfl
  | false =>
    have hw : tokB t = true := hw
    exact tokI_val _ b.toNat_lt ((tokB_facts hw).2 b hb)
theorem lnL_val : ∀ {l : List Wd}, (∀ w ∈ l, WdOk w) → ∀ b ∈ lnL (l.map fun x => ([32], x)), valI (b.toNat : Int) = true
  | [], _, b, hb => by cases hb
  | w :: l, h, b, hb => by
    have hb : b ∈ [32] ++ (prtW w ++ lnL (l.map fun x => ([32], x))) := hb
    rcases List.mem_append.1 hb with hb | hb
    · simp only [List.mem_cons, List.mem_nil_iff, or_false] at hb
      subst hb; rfl
    · rcases List.mem_append.1 hb with hb | hb
      · exact prt_val (h w (.head _)) b hb
      · exact lnL_val (fun x hx => h x (.tail _ hx)) b hb
theorem text_no10 {r : Rl} (h : checkR r = 0) : ∀ b ∈ (textB r).data.toList, b ≠ 10 := by
  intro b hb
  refine val_no10 ?_
  have hok := ruleW_ok h
  rw [textB_l] at hb
  rcases List.mem_append.1 hb with hb | hb
  · exact prt_val (hok _ (.head _)) b hb
  · exact lnL_val (fun w hw => hok w (.tail _ hw)) b hb
/-- a program's text -/
def printL (l : List Rl) : List UInt8 := l.flatMap fun r => (textB r).data.toList ++ [10]
theorem cut_print : ∀ {l : List Rl}, (∀ r ∈ l, checkR r = 0) → cutL 10 (printL l) = (l.map fun r => (textB r).data.toList) ++ [[]]
  | [], _ => rfl
  | r :: l, h => by
    have e : printL (r :: l) = (textB r).data.toList ++ 10 :: printL l := by simp [printL]
    rw [e, cutL_hit (text_no10 (h r (.head _))), cut_print (fun x hx => h x (.tail _ hx))]
    rfl
theorem read_print {l : List Rl} (h : ∀ r ∈ l, checkR r = 0) (hl : l.length ≤ 64) {s : ByteArray} (hs : s.data.toList = printL l) (hz : s.size ≤ 1048576) : readP s = (l, 0, 0) := by
  unfold readP
  rw [if_neg (by omega)]
  have e : linesB s = l.map textB ++ [⟨#[]⟩] := by
    unfold linesB
    rw [hs, cut_print h, List.map_append, List.map_map]
    rfl
  rw [e, readA_back l [] 0 h (by simpa using hl), List.nil_append]
theorem printL_snoc (l : List Rl) (r : Rl) : printL (l ++ [r]) = printL l ++ (textB r).data.toList ++ [10] := by simp [printL]
theorem readA_ok : ∀ (L : List ByteArray) (i : Nat) (acc : List Rl), (∀ x ∈ L, x.size ≤ 100000) → acc.length ≤ 64 → (∀ r ∈ acc, r.Ok) → (readA L i acc).1.length ≤ 64 ∧ ∀ r ∈ (readA L i acc).1, r.Ok
  | [], i, acc, _, h1, h2 => ⟨h1, h2⟩
  | x :: L, i, acc, hL, h1, h2 => by
    rw [readA]
    split
    · exact readA_ok L (i + 1) acc (fun y hy => hL y (.tail _ hy)) h1 h2
    · split
      · exact ⟨Nat.zero_le _, fun r hr => by cases hr⟩
      · rename_i he
        have he : errA x acc.length = 0 := Decidable.byContradiction he
        have h64 : acc.length ≠ 64 := fun e => by
          unfold errA at he
          split at he
          · cases he
          · rename_i hc
            exact hc ⟨he, e⟩
        refine readA_ok L (i + 1) _ (fun y hy => hL y (.tail _ hy)) (by rw [List.length_append]; show _ + 1 ≤ _; omega) fun r hr => ?_
        rcases List.mem_append.1 hr with hr | hr
        · exact h2 r hr
        · simp only [List.mem_cons, List.mem_nil_iff, or_false] at hr
          subst hr
          exact readRl_ok (hL x (.head _))
end Go.Proofs.YtgaidgblihnldaaGreatDoor
