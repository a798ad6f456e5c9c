/- Lines of rules: what words are read from a line that was written. No program in sight. -/
import Derived.Test.YtgaidgblihnldaaGreatDoorRz
import Derived.Test.YtgaidgblihnldaaGreatDoorRuF
import Derived.Test.YtgaidgblihnldaaGreatDoorPf
set_option linter.unusedSimpArgs false
set_option linter.unusedVariables false
set_option maxRecDepth 100000
namespace Go.Proofs.YtgaidgblihnldaaGreatDoor
open Go.RowKit
def qtI (n : Int) : Bool := n == 34 || n == 92
def quoteL (l : List UInt8) : List UInt8 := l.flatMap fun b => if qtI (b.toNat : Int) = true then [92, b] else [b]
def quoteB (s : ByteArray) : ByteArray := ⟨(34 :: (quoteL s.data.toList ++ [34])).toArray⟩
def quoteR (s : ByteArray) : ByteArray × Int := if allI valI s = true then (quoteB s, 0) else (⟨#[]⟩, 2)
theorem quoteL_yes {b : UInt8} (v : List UInt8) (h : qtI (b.toNat : Int) = true) : quoteL (b :: v) = 92 :: b :: quoteL v := by simp [quoteL, h]
theorem quoteL_no {b : UInt8} (v : List UInt8) (h : qtI (b.toNat : Int) = false) : quoteL (b :: v) = b :: quoteL v := by simp [quoteL, h]
theorem quoteL_snoc (l : List UInt8) (b : UInt8) : quoteL (l ++ [b]) = quoteL l ++ (if qtI (b.toNat : Int) = true then [92, b] else [b]) := by simp [quoteL]
theorem quoteL_len : ∀ l : List UInt8, (quoteL l).length ≤ 2 * l.length
  | [] => by simp [quoteL]
  | b :: l => by
    have := quoteL_len l
    cases h : qtI (b.toNat : Int) with
    | true => rw [quoteL_yes l h]; simp only [List.length_cons]; omega
    | false => rw [quoteL_no l h]; simp only [List.length_cons]; omega
theorem quoteB_l (s : ByteArray) : (quoteB s).data.toList = 34 :: (quoteL s.data.toList ++ [34]) := by
  unfold quoteB
  show (List.toArray _).toList = _
  rw [List.toList_toArray]
theorem quoteB_size (s : ByteArray) : (quoteB s).size ≤ 2 * s.size + 2 := by
  have := quoteL_len s.data.toList
  rw [blen] at this
  rw [← blen, quoteB_l]
  simp
  omega
theorem quoteR_size (s : ByteArray) : (quoteR s).1.size ≤ 2 * s.size + 2 := by
  unfold quoteR
  split
  · exact quoteB_size s
  · exact Nat.zero_le _
theorem drop_at {s : ByteArray} {k : Nat} {x : UInt8} {r : List UInt8} (h : s.data.toList.drop k = x :: r) : s.data.toList[k]? = some x ∧ s.data.toList.drop (k + 1) = r := by
  have h0 : (s.data.toList.drop k)[0]? = some x := by rw [h]; rfl
  rw [List.getElem?_drop] at h0
  refine ⟨h0, ?_⟩
  have h1 : (s.data.toList.drop k).drop 1 = r := by rw [h]; rfl
  rwa [List.drop_drop] at h1
theorem drop_lt {s : ByteArray} {k : Nat} {x : UInt8} {r : List UInt8} (h : s.data.toList.drop k = x :: r) : k < s.size := by
  have := (List.getElem?_eq_some_iff.1 (drop_at h).1).1
  rwa [blen] at this
theorem drop_app {s : ByteArray} {k : Nat} {x r : List UInt8} (h : s.data.toList.drop k = x ++ r) : s.data.toList.drop (k + x.length) = r := by
  have h1 : (s.data.toList.drop k).drop x.length = r := by rw [h, List.drop_left]
  rwa [List.drop_drop] at h1
theorem frontW_q {s : ByteArray} (post : List UInt8) : ∀ (v : List UInt8) (k : Nat) (acc : List UInt8), (∀ b ∈ v, valI (b.toNat : Int) = true) → s.data.toList.drop k = quoteL v ++ 34 :: post → frontW s k acc = some (acc ++ v, k + (quoteL v).length + 1)
  | [], k, acc, _, h => by
    have h : s.data.toList.drop k = 34 :: post := h
    have h1 := (drop_at h).1
    rw [frontW_end acc (by unfold atB; rw [h1]; rfl), List.append_nil]
    rfl
  | b :: v, k, acc, hv, h => by
    have hb := hv b (.head _)
    cases hq : qtI (b.toNat : Int) with
    | true =>
      rw [quoteL_yes v hq] at h ⊢
      obtain ⟨h1, h2⟩ := drop_at h
      obtain ⟨h3, h4⟩ := drop_at h2
      have a92 : atB s k 92 = true := by unfold atB; rw [h1]; rfl
      have a34 : atB s k 34 = false := by unfold atB; rw [h1]; rfl
      have hn : nxt s k = some (b, k + 1 + 1) := by unfold nxt; rw [if_pos a92, h3]; simp only [if_pos hb]
      rw [frontW_some acc a34 hn, frontW_q post v (k + 1 + 1) (acc ++ [b]) (fun x hx => hv x (.tail _ hx)) h4]
      simp only [List.append_assoc, List.cons_append, List.nil_append, List.length_cons, Option.some.injEq, Prod.mk.injEq, true_and]
      omega
    | false =>
      rw [quoteL_no v hq] at h ⊢
      obtain ⟨h1, h2⟩ := drop_at h
      unfold qtI at hq
      rw [Bool.or_eq_false_iff] at hq
      have a92 : atB s k 92 = false := by unfold atB; rw [h1]; exact hq.2
      have a34 : atB s k 34 = false := by unfold atB; rw [h1]; exact hq.1
      have hn : nxt s k = some (b, k + 1) := by unfold nxt; rw [if_neg (by rw [a92]; decide), h1]; simp only [if_pos hb]
      rw [frontW_some acc a34 hn, frontW_q post v (k + 1) (acc ++ [b]) (fun x hx => hv x (.tail _ hx)) h2]
      simp only [List.append_assoc, List.cons_append, List.nil_append, List.length_cons, Option.some.injEq, Prod.mk.injEq, true_and]
      omega
theorem frontW_val {s : ByteArray} : ∀ (z k : Nat) (acc v : List UInt8) (j : Nat), s.size - k = z → (∀ b ∈ acc, valI (b.toNat : Int) = true) → frontW s k acc = some (v, j) → ∀ b ∈ v, valI (b.toNat : Int) = true := by
  intro z
  induction z using Nat.strongRecOn with
  | _ z ih =>
    intro k acc v j hz ha h
    cases hq : atB s k 34
    · cases hn : nxt s k with
      | none => rw [frontW_none acc hq hn] at h; cases h
      | some bj =>
        obtain ⟨b, i⟩ := bj
        rw [frontW_some acc hq hn] at h
        have := nxt_lt hn
        refine ih (s.size - i) (by omega) i (acc ++ [b]) v j rfl (fun x hx => ?_) h
        rcases List.mem_append.1 hx with hx | hx
        · exact ha x hx
        · simp at hx
          subst hx
          unfold nxt at hn
          split at hn
          · split at hn
            · rename_i hv
              cases hn
              exact hv
            · cases hn
          · cases hn
    · rw [frontW_end acc hq] at h
      cases h
      exact ha

/-- a word, as it stands in a line -/
def prtW (w : Wd) : List UInt8 := if w.2 = true then 34 :: (quoteL w.1.data.toList ++ [34]) else w.1.data.toList
def WdOk (w : Wd) : Prop := if w.2 = true then allI valI w.1 = true else tokB w.1 = true
def wdB (w : Wd) : ByteArray := if w.2 = true then quoteB w.1 else w.1
theorem wdB_l (w : Wd) : (wdB w).data.toList = prtW w := by
  unfold wdB prtW
  split
  · exact quoteB_l _
  · rfl
theorem tok_no (b : UInt8) (h : tokI (b.toNat : Int) = true) : (b == 34) = false := by
  have := u8_of (q := fun b => !tokI (b.toNat : Int) || !(b == 34)) (by decide +kernel) b
  simpa only [h, Bool.not_true, Bool.false_or, Bool.not_eq_true'] using this
theorem prt_head {w : Wd} (hw : WdOk w) (q : List UInt8) : ∃ b r, prtW w ++ q = b :: r ∧ blkI (b.toNat : Int) = false ∧ (b == 34) = w.2 ∧ (w.2 = false → tokI (b.toNat : Int) = true) := by
  obtain ⟨t, f⟩ := w
  cases f with
  | true => exact ⟨34, _, rfl, rfl, rfl, fun h => by cases h⟩
  | false =>
    have hw : tokB t = true := hw
    obtain ⟨h0, h1⟩ := tokB_facts hw
    show ∃ b r, t.data.toList ++ q = b :: r ∧ _
    cases hl : t.data.toList with
    | nil => rw [← blen, hl] at h0; cases h0
    | cons b r =>
      have hb := h1 b (by rw [hl]; exact .head _)
      exact ⟨b, r ++ q, rfl, (tok_facts b hb).2.1, tok_no b hb, fun _ => hb⟩
theorem word_prt {s : ByteArray} {k : Nat} {w : Wd} {post : List UInt8} (hw : WdOk w) (h : s.data.toList.drop k = prtW w ++ post) (hp : ∀ b, post.head? = some b → blkI (b.toNat : Int) = true) :
    wordS s k = some (w.1, k + (prtW w).length) ∧ atB s k 34 = w.2 ∧ k < s.size := by
  obtain ⟨b, r, e1, e2, e3, e4⟩ := prt_head hw post
  have h1 := drop_at (h.trans e1)
  have h2 : atB s k 34 = w.2 := by
    unfold atB
    rw [h1.1, ← e3, Option.any_some, Bool.eq_iff_iff, beq_iff_eq, beq_iff_eq]
    constructor
    · intro h; exact UInt8.toNat_inj.1 (by have : ((34 : UInt8)).toNat = 34 := rfl; omega)
    · intro h; rw [h]; rfl
  refine ⟨?_, h2, drop_lt (h.trans e1)⟩
  obtain ⟨t, f⟩ := w
  cases f with
  | true =>
    have hw : allI valI t = true := hw
    have h : s.data.toList.drop k = 34 :: (quoteL t.data.toList ++ [34]) ++ post := h
    have h3 : s.data.toList.drop (k + 1) = quoteL t.data.toList ++ 34 :: post := by
      have := (drop_at (x := 34) (r := (quoteL t.data.toList ++ [34]) ++ post) h).2
      rw [this]
      simp
    rw [wordS_no (q_no_tok (Nat.le_of_lt (drop_lt (h.trans rfl))) h2)]
    unfold frontS
    rw [if_pos h2, frontW_q post _ _ [] (allI_mem hw) h3]
    show some _ = some _
    rw [List.nil_append]
    refine congrArg some (Prod.ext (inL ?_) ?_)
    · show (List.toArray _).toList = _
      rw [List.toList_toArray]
    · show _ = k + (34 :: (quoteL t.data.toList ++ [34])).length
      simp only [List.length_cons, List.length_append, List.length_nil]
      omega
  | false =>
    have hw : tokB t = true := hw
    obtain ⟨h0, h4⟩ := tokB_facts hw
    have h : s.data.toList.drop k = t.data.toList ++ post := h
    have ht : tw tokI s k = t.data.toList.length := tw_list h h4 (fun b hb => (blk_facts b (hp b hb)).2.1)
    have hlen : t.data.toList.length = t.size := blen t
    rw [wordS_tok (by rw [ht]; omega), ht]
    refine congrArg some (Prod.ext (inL ?_) rfl)
    rw [exL, List.drop_take, h, Nat.add_sub_cancel_left, List.take_left]
theorem gap_prt {s : ByteArray} {k : Nat} {y r : List UInt8} (h : s.data.toList.drop k = y ++ r) (hy : ∀ b ∈ y, blkI (b.toNat : Int) = true) (hr : ∀ b, r.head? = some b → blkI (b.toNat : Int) = false) (hne : y ≠ [] ∨ r = []) : gapS s k = some (k + y.length) := by
  have ht : tw blkI s k = y.length := tw_list h hy hr
  unfold gapS
  rw [ht, if_neg]
  rintro ⟨h1, _, h2⟩
  have hy0 := List.eq_nil_of_length_eq_zero h1
  rcases hne with hne | hne
  · exact hne hy0
  · rw [hy0, hne] at h
    have := List.drop_eq_nil_iff.1 h
    rw [blen] at this
    omega
/-- words with blanks ahead of each -/
def lnL : List (List UInt8 × Wd) → List UInt8
  | [] => []
  | x :: r => x.1 ++ (prtW x.2 ++ lnL r)
def BlkL (y : List UInt8) : Prop := ∀ b ∈ y, blkI (b.toNat : Int) = true
theorem words_line {s : ByteArray} {z : List UInt8} (hz : BlkL z) : ∀ (r : List (List UInt8 × Wd)) (w : Wd) (k : Nat), WdOk w → (∀ x ∈ r, x.1 ≠ [] ∧ BlkL x.1 ∧ WdOk x.2) → s.data.toList.drop k = prtW w ++ (lnL r ++ z) → wordsW s k = (w :: r.map (·.2), true)
  | [], w, k, hw, _, h => by
    have h : s.data.toList.drop k = prtW w ++ z := h
    have hp : ∀ b, z.head? = some b → blkI (b.toNat : Int) = true := fun b hb => hz b (by cases z with | nil => cases hb | cons c z => simp at hb; subst hb; exact .head _)
    obtain ⟨h1, h2, h3⟩ := word_prt hw h hp
    have h4 := drop_app h
    have h5 : gapS s (k + (prtW w).length) = some (k + (prtW w).length + z.length) := gap_prt (r := []) (by rw [List.append_nil]; exact h4) hz (fun b hb => by cases hb) (.inr rfl)
    have h6 := drop_app (x := z) (r := []) (by rw [List.append_nil]; exact h4)
    have h7 := List.drop_eq_nil_iff.1 h6
    rw [blen] at h7
    rw [wordsW_some h3 h1 h5, wordsW_end h7, h2]
    rfl
  | (y, v) :: r, w, k, hw, hr, h => by
    obtain ⟨y1, y2, y3⟩ := hr _ (.head _)
    have h : s.data.toList.drop k = prtW w ++ (y ++ (prtW v ++ (lnL r ++ z))) := by rw [h]; simp [lnL]
    have hp : ∀ b, (y ++ (prtW v ++ (lnL r ++ z))).head? = some b → blkI (b.toNat : Int) = true := fun b hb => by
      cases y with
      | nil => exact absurd rfl y1
      | cons c y => simp at hb; subst hb; exact y2 _ (.head _)
    obtain ⟨h1, h2, h3⟩ := word_prt hw h hp
    have h4 := drop_app h
    obtain ⟨b, r9, e1, e2, _⟩ := prt_head y3 (lnL r ++ z)
    have h5 := gap_prt h4 y2 (fun b' hb' => by rw [e1] at hb'; cases hb'; exact e2) (.inl y1)
    have h6 := words_line hz r v _ y3 (fun x hx => hr x (.tail _ hx)) (drop_app h4)
    rw [wordsW_some h3 h1 h5, h6, h2]
    rfl
theorem words_of {s : ByteArray} {z y : List UInt8} (hz : BlkL z) (hy : BlkL y) (r : List (List UInt8 × Wd)) (w : Wd) (hw : WdOk w) (hr : ∀ x ∈ r, x.1 ≠ [] ∧ BlkL x.1 ∧ WdOk x.2) (h : s.data.toList = y ++ (prtW w ++ (lnL r ++ z))) : wordsR s = (w :: r.map (·.2), true) := by
  obtain ⟨b, r9, e1, e2, _⟩ := prt_head hw (lnL r ++ z)
  have h0 : tw blkI s 0 = y.length := tw_list h hy (fun b' hb' => by rw [e1] at hb'; cases hb'; exact e2)
  unfold wordsR
  rw [h0]
  refine words_line hz r w _ hw hr ?_
  have := drop_app (k := 0) h
  rwa [Nat.zero_add] at this
/-- the words that are read are words -/
theorem word_ok {s t : ByteArray} {k e : Nat} (hk : k ≤ s.size) (h : wordS s k = some (t, e)) : WdOk (t, atB s k 34) := by
  by_cases h0 : tw tokI s k = 0
  · rw [wordS_no h0] at h
    cases hf : frontS s k with
    | none => rw [hf] at h; cases h
    | some x =>
      rw [hf] at h
      obtain ⟨v, i⟩ := x
      cases h
      unfold frontS at hf
      split at hf
      · rename_i hq
        show WdOk (_, atB s k 34)
        rw [hq]
        show allI valI _ = true
        refine allI_mk ?_
        show ∀ b ∈ (List.toArray v).toList, _
        rw [List.toList_toArray]
        exact frontW_val _ _ [] v _ rfl (fun b hb => by cases hb) hf
      · cases hf
  · rw [wordS_tok h0] at h
    cases h
    have h1 := tok_no34 hk h0
    rw [h1.2]
    show tokB _ = true
    have h2 := tw_le tokI s k hk
    unfold tokB
    rw [Bool.and_eq_true, decide_eq_true_eq]
    refine ⟨by rw [ByteArray.size_extract]; omega, all_ext h2 (fun j j1 j2 => tw_lt j1 j2 hk)⟩
theorem words_ok {s : ByteArray} : ∀ (z k : Nat), s.size - k = z → k ≤ s.size → ∀ w ∈ (wordsW s k).1, WdOk w := by
  intro z
  induction z using Nat.strongRecOn with
  | _ z ih =>
    intro k hz hk w hw
    by_cases hlt : k < s.size
    · cases hs : wordS s k with
      | none => rw [wordsW_none hlt hs] at hw; cases hw
      | some x =>
        obtain ⟨t, e⟩ := x
        have l1 := wordS_le hk hs
        have h1 := word_ok hk hs
        cases hg : gapS s e with
        | none =>
          rw [wordsW_gap hlt hs hg] at hw
          simp at hw
          subst hw
          exact h1
        | some j =>
          have l2 := gapS_le l1.2 hg
          rw [wordsW_some hlt hs hg] at hw
          rcases List.mem_cons.1 hw with hw | hw
          · subst hw; exact h1
          · exact ih (s.size - j) (by omega) j rfl l2.2 w hw
    · rw [wordsW_end (by omega)] at hw
      cases hw
theorem wordsR_ok (s : ByteArray) : ∀ w ∈ (wordsR s).1, WdOk w := by
  have := tw_le blkI s 0 (Nat.zero_le _)
  exact words_ok _ _ rfl (by omega)

/-- what a template may be read of is a value -/
theorem oneT_val {s : ByteArray} {k j : Nat} {p : Prt} (h : oneT s k = some (p, j)) : ∀ i (hi : i < s.size), k ≤ i → i < j → valI (s[i].toNat : Int) = true := by
  have at_val : ∀ {k : Nat} {b : Int}, atB s k b = true → valI b = true → ∀ (hk : k < s.size), valI (s[k].toNat : Int) = true := by
    intro k b ha hb hk
    obtain ⟨_, e⟩ := atB_of ha
    rw [e]; exact hb
  have tok_val : ∀ m : Nat, m < 256 → tokI (m : Int) = true → valI (m : Int) = true := by decide +kernel
  have sml_val : ∀ m : Nat, m < 256 → smlI (m : Int) = true → valI (m : Int) = true := by decide +kernel
  unfold oneT at h
  split at h
  · split at h
    · split at h
      · rename_i hk hv
        cases h
        intro i hi h1 h2
        obtain rfl : i = k := by omega
        exact hv
      · cases h
    · cases h
  · rename_i h36
    have h36 : atB s k 36 = true := by simpa using h36
    split at h
    · rename_i h37
      cases h
      intro i hi h1 h2
      by_cases e : i = k
      · subst e; exact at_val h36 rfl hi
      · obtain rfl : i = k + 1 := by omega
        exact at_val h37 rfl hi
    · split at h
      · cases h
      · rename_i hno
        have hk : k ≤ s.size := Nat.le_of_lt (atB_of h36).1
        have hl := tw_le nbrI s k hk
        have n1 : k + tw nbrI s k ≠ s.size := fun e => hno (.inl e)
        have n3 : atB s (k + 1) 123 = true := by
          cases e : atB s (k + 1) 123 with
          | true => rfl
          | false => exact absurd (.inr (.inr e)) hno
        have hend := tw_stop (q := nbrI) (s := s) (k := k) (by omega)
        have he : (s[k + tw nbrI s k]'(by omega)).toNat = 125 := by
          unfold nbrI at hend
          have h9 := bne_eq_false_iff_eq.1 hend
          exact Int.ofNat.inj h9
        have fin : ∀ (d : Nat) (q : Int → Bool), (∀ m : Nat, m < 256 → q (m : Int) = true → valI (m : Int) = true) → (∀ i (hi : i < s.size), k ≤ i → i < k + d → valI (s[i].toNat : Int) = true) → allI q (s.extract (k + d) (k + tw nbrI s k)) = true →
            ∀ i (hi : i < s.size), k ≤ i → i < k + tw nbrI s k + 1 → valI (s[i].toNat : Int) = true := by
          intro d q hq h0 ha i hi h1 h2
          by_cases e : i = k + tw nbrI s k
          · subst e; rw [he]; rfl
          · by_cases e2 : i < k + d
            · exact h0 i hi h1 e2
            · obtain ⟨_, h3⟩ := ext_all' (by omega) ha i (by omega) (by omega)
              exact hq _ (s[i].toNat_lt) h3
        split at h
        · rename_i h64
          split at h
          · rename_i ht
            cases h
            refine fin 3 tokI tok_val (fun i hi h1 h2 => ?_) (by unfold tokB at ht; rw [Bool.and_eq_true] at ht; exact ht.2)
            by_cases e : i = k
            · subst e; exact at_val h36 rfl hi
            · by_cases e2 : i = k + 1
              · subst e2; exact at_val n3 rfl hi
              · obtain rfl : i = k + 2 := by omega
                exact at_val h64 rfl hi
          · cases h
        · split at h
          · rename_i ht
            cases h
            refine fin 2 smlI sml_val (fun i hi h1 h2 => ?_) ht
            by_cases e : i = k
            · subst e; exact at_val h36 rfl hi
            · obtain rfl : i = k + 1 := by omega
              exact at_val n3 rfl hi
          · cases h
theorem tpW_val {s : ByteArray} : ∀ (z k : Nat) (acc l : List Prt), s.size - k = z → tpW s k acc = some l → ∀ i (hi : i < s.size), k ≤ i → valI (s[i].toNat : Int) = true := by
  intro z
  induction z using Nat.strongRecOn with
  | _ z ih =>
    intro k acc l hz h i hi hki
    have hk : k < s.size := by omega
    cases ho : oneT s k with
    | none => rw [tpW_none hk ho] at h; cases h
    | some x =>
      obtain ⟨p, j⟩ := x
      have hl := oneT_lt ho
      rw [tpW_some hk ho] at h
      by_cases e : i < j
      · exact oneT_val ho i hi hki e
      · exact ih (s.size - j) (by omega) j _ l rfl h i hi (by omega)
theorem parseT_val {s : ByteArray} (h : (parseT s).2 ≠ 2) : allI valI s = true := by
  unfold parseT at h
  cases ht : tpW s 0 [] with
  | none => rw [ht] at h; exact absurd rfl h
  | some l => exact allI_true fun i hi => tpW_val _ 0 [] l rfl ht i hi (Nat.zero_le _)
end Go.Proofs.YtgaidgblihnldaaGreatDoor
