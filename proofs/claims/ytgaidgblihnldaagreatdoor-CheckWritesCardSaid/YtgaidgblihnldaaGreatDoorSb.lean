/- Lists behind commas: appended to, the program and the document. No statement of its own. -/
import Derived.Test.YtgaidgblihnldaaGreatDoorSa
set_option linter.unusedSimpArgs false
set_option linter.unusedVariables false
set_option maxRecDepth 100000
namespace Go.Proofs.YtgaidgblihnldaaGreatDoor
open Go.RowKit
theorem blk_c (b : UInt8) : [32, 9].contains b = blkI (b.toNat : Int) := by
  have : ∀ m : Nat, m < 256 → [32, 9].contains (UInt8.ofNat m) = blkI (m : Int) := by decide +kernel
  have := this b.toNat b.toNat_lt
  rwa [UInt8.ofNat_toNat] at this
def bcI (n : Int) : Bool := blkI n || n == 44
theorem bc_c (b : UInt8) : [32, 9, 44].contains b = bcI (b.toNat : Int) := by
  have : ∀ m : Nat, m < 256 → [32, 9, 44].contains (UInt8.ofNat m) = bcI (m : Int) := by decide +kernel
  have := this b.toNat b.toNat_lt
  rwa [UInt8.ofNat_toNat] at this
def bcS : ByteArray := ⟨#[32, 9, 44]⟩
theorem dropWhile_all {α : Type} {q : α → Bool} : ∀ {l : List α}, (∀ x ∈ l, q x = true) → l.dropWhile q = []
  | [], _ => rfl
  | x :: r, h => by rw [List.dropWhile_cons_of_pos (h x (.head _))]; exact dropWhile_all fun y hy => h y (.tail _ hy)
theorem dropWhile_nil {α : Type} {q : α → Bool} : ∀ {l : List α}, l.dropWhile q = [] → ∀ x ∈ l, q x = true
  | [], _, x, hx => by simp at hx
  | y :: r, h, x, hx => by
    cases hq : q y with
    | true =>
      rw [List.dropWhile_cons_of_pos hq] at h
      rcases List.mem_cons.1 hx with rfl | hx
      · exact hq
      · exact dropWhile_nil h x hx
    | false => rw [List.dropWhile_cons_of_neg (by simp [hq])] at h; cases h
theorem trimS_nil (l cs : List UInt8) : Lib.trimS l cs = [] ↔ ∀ x ∈ l, cs.contains x = true := by
  unfold Lib.trimS Lib.trimLeftS Lib.trimRightS
  constructor
  · intro h x hx
    cases hq : cs.contains x with
    | true => rfl
    | false =>
      have h1 : x ∈ (l.reverse.dropWhile (cs.contains ·)).reverse := by
        rw [List.mem_reverse]
        have := List.mem_reverse.2 hx
        rw [← List.takeWhile_append_dropWhile (p := (cs.contains ·)) (l := l.reverse)] at this
        rcases List.mem_append.1 this with h2 | h2
        · have := List.all_eq_true.1 (List.all_takeWhile (p := (cs.contains ·)) (l := l.reverse)) x h2
          rw [hq] at this; cases this
        · exact h2
      have := dropWhile_nil h x h1
      rw [hq] at this; cases this
  · intro h
    rw [dropWhile_all (l := l.reverse) (fun x hx => h x (List.mem_reverse.1 hx))]
    rfl
theorem trimC_zero (s : ByteArray) : (trimC s bcS).size = 0 ↔ allI bcI s = true := by
  have e : (trimC s bcS).size = (Lib.trimS s.data.toList [32, 9, 44]).length := by unfold trimC; show (Array.size _) = _; rw [List.size_toArray]; rfl
  rw [e, List.length_eq_zero_iff, trimS_nil]
  unfold allI
  rw [List.all_eq_true]
  exact ⟨fun h x hx => (bc_c x).symm.trans (h x hx), fun h x hx => (bc_c x).trans (h x hx)⟩
theorem trimRC_at {s : ByteArray} {m : Nat} (hm : m < s.size) (h1 : ∀ j (hj : j < s.size), m < j → blkI (s[j].toNat : Int) = true) (h2 : blkI (s[m].toNat : Int) = false) : trimRC s spcS = s.extract 0 (m + 1) := by
  apply inL
  rw [exL, List.drop_zero]
  show Lib.trimRightS s.data.toList [32, 9] = _
  unfold Lib.trimRightS
  have hl := blen s
  have hsp : s.data.toList = s.data.toList.take (m + 1) ++ s.data.toList.drop (m + 1) := (List.take_append_drop _ _).symm
  conv => lhs; rw [hsp]
  rw [List.reverse_append, List.dropWhile_append_of_pos (fun x hx => by
    rw [List.mem_reverse] at hx
    obtain ⟨j, hj, rfl⟩ := List.getElem_of_mem hx
    rw [List.length_drop] at hj
    rw [List.getElem_drop, blk_c]
    exact h1 (m + 1 + j) (by omega) (by omega))]
  rw [List.take_add_one, List.getElem?_eq_getElem (by omega)]
  simp only [Option.toList, List.reverse_append, List.reverse_cons, List.reverse_nil, List.nil_append, List.cons_append]
  rw [List.dropWhile_cons_of_neg (by rw [blk_c]; rw [show s.data.toList[m] = s[m] from rfl, h2]; decide)]
  simp
theorem joinC_cons {sep x : ByteArray} {l : List ByteArray} (h : l ≠ []) : joinC sep (x :: l) = x ++ sep ++ joinC sep l := by
  apply inL
  unfold joinC
  rw [ByteArray.data_append, ByteArray.data_append]
  simp only [Array.toList_append, List.map_cons]
  cases l with
  | nil => exact absurd rfl h
  | cons y r =>
    rw [List.map_cons, Lib.join_cons, Lib.join_cons]
    simp [Lib.joinTail]
def appW (s : ByteArray) (l : List ByteArray) : ByteArray := if l = [] then s else if allI bcI s = true then joinC comS l else joinC comS (trimRC s spcS :: l)
theorem trimRC_size (s cs : ByteArray) : (trimRC s cs).size ≤ s.size := by
  have e : (trimRC s cs).size = (Lib.trimRightS s.data.toList cs.data.toList).length := by unfold trimRC; show (Array.size _) = _; rw [List.size_toArray]
  rw [e, ← blen]
  unfold Lib.trimRightS
  rw [List.length_reverse]
  have := (List.dropWhile_sublist (fun x => cs.data.toList.contains x) (l := s.data.toList.reverse)).length_le
  rwa [List.length_reverse] at this
theorem strL_cons (x : ByteArray) (l : List ByteArray) : [AV.s x] :: strL l = strL (x :: l) := rfl
theorem ext_at (s : ByteArray) (m k : Nat) (h : k < (s.extract 0 m).size) (h2 : k < s.size) : (s.extract 0 m)[k] = s[k] := by
  simp [ByteArray.getElem_extract]
theorem ext_ext0 (s : ByteArray) (m k : Nat) (h : k ≤ m) : (s.extract 0 m).extract 0 k = s.extract 0 k := by
  apply inL
  rw [exL, exL, exL]
  simp only [List.drop_zero]
  rw [List.take_take, Nat.min_eq_left h]
theorem joinC_bound (sep : ByteArray) : ∀ (l : List ByteArray), (∀ x ∈ l, x.size ≤ 80) → (joinC sep l).size ≤ l.length * (80 + sep.size)
  | [], _ => by rw [joinC_nil]; exact Nat.zero_le _
  | [x], h => by
    rw [joinC_one]
    have := h x (.head _)
    simp; omega
  | x :: y :: r, h => by
    have ih := joinC_bound sep (y :: r) (fun z hz => h z (.tail _ hz))
    have := h x (.head _)
    rw [joinC_cons (by simp), app_size, app_size, List.length_cons, Nat.add_mul]
    omega
theorem minI_at (n m : Nat) : (if (m : Int) < (n : Int) then (m : Int) else (n : Int)) = ((if m < n then m else n : Nat) : Int) := by
  split <;> split <;> omega

/-- t reads at i + d - c as s at i, from k up to e -/
structure Smw (s t : ByteArray) (c d k e : Nat) : Prop where
  ge : c ≤ k
  eq : ∀ i, k ≤ i → i < e → t.data.toList[i + d - c]? = s.data.toList[i]?
theorem Smw.at {s t : ByteArray} {c d k e i : Nat} (h : Smw s t c d k e) (h1 : k ≤ i) (h2 : i < e) (b : Int) : atB t (i + d - c) b = atB s i b := by
  unfold atB; rw [h.eq i h1 h2]
theorem Smw.lt {s t : ByteArray} {c d k e i : Nat} (h : Smw s t c d k e) (h1 : k ≤ i) (h2 : i < e) (h3 : i < s.size) : i + d - c < t.size := by
  have := h.eq i h1 h2
  rw [at_lt h3] at this
  have := (List.getElem?_eq_some_iff.1 this).1
  rwa [blen] at this
theorem Smw.from {s t : ByteArray} {c d k e k' : Nat} (h : Smw s t c d k e) (hk : k ≤ k') : Smw s t c d k' e := ⟨by have := h.ge; omega, fun i h1 h2 => h.eq i (by omega) h2⟩
theorem Smw.upto {s t : ByteArray} {c d k e e' : Nat} (h : Smw s t c d k e) (he : e' ≤ e) : Smw s t c d k e' := ⟨h.ge, fun i h1 h2 => h.eq i h1 (by omega)⟩

theorem cmtW_move {s t : ByteArray} {c d j : Nat} : ∀ (z k n : Nat), s.size - k ≤ z → k ≤ s.size → cmtW s k n = some j → Smw s t c d k j → cmtW t (k + d - c) n = some (j + d - c) := by
  intro z
  induction z with
  | zero =>
    intro k n hz hk h hs
    unfold cmtW at h
    split at h
    · rename_i hn; cases h; unfold cmtW; rw [if_pos hn]
    · rw [dif_neg (by omega)] at h; cases h
  | succ z ih =>
    intro k n hz hk h hs
    have hge := hs.ge
    have hle := cmtW_le s _ k n j (Nat.le_refl _) hk h
    have e1 : k + d - c + 1 = k + 1 + d - c := by omega
    have e2 : k + d - c + 2 = k + 2 + d - c := by omega
    unfold cmtW at h
    split at h
    · rename_i hn; cases h; unfold cmtW; rw [if_pos hn]
    · rename_i hn
      split at h
      · rename_i hlt
        have hkj : k < j := by
          split at h
          · have := cmtW_le s _ _ _ _ (Nat.le_refl _) (by omega) h; omega
          · split at h
            · have := cmtW_le s _ _ _ _ (Nat.le_refl _) (by omega) h; omega
            · split at h
              · by_cases h1 : k + 1 < s.size
                · rw [if_pos h1] at h; have := cmtW_le s _ _ _ _ (Nat.le_refl _) (by omega) h; omega
                · rw [if_neg h1] at h; have := cmtW_le s _ _ _ _ (Nat.le_refl _) (by omega) h; omega
              · have := cmtW_le s _ _ _ _ (Nat.le_refl _) (by omega) h; omega
        unfold cmtW
        rw [if_neg hn, dif_pos (hs.lt (Nat.le_refl _) hkj hlt), hs.at (Nat.le_refl _) hkj, hs.at (Nat.le_refl _) hkj, hs.at (Nat.le_refl _) hkj]
        split at h
        · rename_i q; rw [if_pos q, e1]; exact ih (k + 1) _ (by omega) (by omega) h (hs.from (by omega))
        · rename_i q; rw [if_neg q]
          split at h
          · rename_i q; rw [if_pos q, e1]; exact ih (k + 1) _ (by omega) (by omega) h (hs.from (by omega))
          · rename_i q; rw [if_neg q]
            split at h
            · rename_i q; rw [if_pos q]
              by_cases h1 : k + 1 < s.size
              · rw [if_pos h1] at h
                have := cmtW_le s _ _ _ _ (Nat.le_refl _) (by omega) h
                have hl := hs.lt (i := k + 1) (by omega) (by omega) h1
                rw [if_pos (by omega), e2]
                exact ih (k + 2) _ (by omega) (by omega) h (hs.from (by omega))
              · rw [if_neg h1] at h
                unfold cmtW at h
                rw [if_neg hn, dif_neg (by omega)] at h
                cases h
            · rename_i q; rw [if_neg q, e1]; exact ih (k + 1) _ (by omega) (by omega) h (hs.from (by omega))
      · cases h
theorem nxt_move {s t : ByteArray} {c d k j : Nat} {b : UInt8} (h : nxt s k = some (b, j)) (hs : Smw s t c d k j) : nxt t (k + d - c) = some (b, j + d - c) := by
  have hge := hs.ge
  have hl := nxt_lt h
  have e92 := hs.at (Nat.le_refl _) hl.1 92
  unfold nxt at h ⊢
  rw [e92]
  have e : (if atB s k 92 = true then k + d - c + 1 else k + d - c) = (if atB s k 92 = true then k + 1 else k) + d - c := by split <;> omega
  rw [e]
  have hk : k ≤ (if atB s k 92 = true then k + 1 else k) := by split <;> omega
  generalize (if atB s k 92 = true then k + 1 else k) = i at *
  have hij : j = i + 1 := by
    split at h
    · split at h
      · cases h; rfl
      · cases h
    · cases h
  rw [hs.eq i hk (by omega)]
  split at h
  · rename_i x hc
    split at h
    · rename_i hv
      rw [if_pos hv]
      cases h
      rw [show i + d - c + 1 = i + 1 + d - c by omega]
    · cases h
  · cases h
theorem frontW_move {s t : ByteArray} {c d j : Nat} {v : List UInt8} : ∀ (z k : Nat) (acc : List UInt8), s.size - k = z → frontW s k acc = some (v, j) → Smw s t c d k j → frontW t (k + d - c) acc = some (v, j + d - c) := by
  intro z
  induction z using Nat.strongRecOn with
  | _ z ih =>
    intro k acc hz h hs
    have hge := hs.ge
    have hle := frontW_le _ _ _ _ _ rfl h
    have e := hs.at (Nat.le_refl _) hle.1 34
    cases hq : atB s k 34
    · rw [hq] at e
      cases hn : nxt s k with
      | none => rw [frontW_none acc hq hn] at h; cases h
      | some bi =>
        obtain ⟨b, i⟩ := bi
        rw [frontW_some acc hq hn] at h
        have hl := nxt_lt hn
        have hle2 := frontW_le _ _ _ _ _ rfl h
        rw [frontW_some acc e (nxt_move hn (hs.upto (by omega)))]
        exact ih (s.size - i) (by omega) i _ rfl h (hs.from (by omega))
    · rw [hq] at e
      rw [frontW_end acc hq] at h
      cases h
      rw [frontW_end _ e, show k + d - c + 1 = k + 1 + d - c by omega]
theorem stepW_move {s t : ByteArray} {c d k j : Nat} (hk : k < s.size) (h : stepW s k = some j) (hs : Smw s t c d k j) : stepW t (k + d - c) = some (j + d - c) := by
  have hge := hs.ge
  have hl := stepW_lt hk h
  have e1 : k + d - c + 1 = k + 1 + d - c := by omega
  unfold stepW at h ⊢
  rw [hs.at (Nat.le_refl _) hl.1, hs.at (Nat.le_refl _) hl.1, hs.at (Nat.le_refl _) hl.1, e1]
  split at h
  · rename_i q; rw [if_pos q]; cases h; rfl
  · rename_i q; rw [if_neg q]
    split at h
    · rename_i q; rw [if_pos q]
      exact cmtW_move _ (k + 1) 1 (Nat.le_refl _) (by omega) h (hs.from (by omega))
    · rename_i q; rw [if_neg q]
      split at h
      · rename_i q; rw [if_pos q]
        unfold frontS at h ⊢
        rw [if_pos q] at h
        rw [hs.at (Nat.le_refl _) hl.1, if_pos q, e1]
        cases hf : frontW s (k + 1) [] with
        | none => rw [hf] at h; cases h
        | some x =>
          obtain ⟨v, i⟩ := x
          rw [hf] at h
          cases h
          rw [frontW_move (c := c) (d := d) _ (k + 1) [] rfl hf (hs.from (by omega))]
          rfl
      · rename_i q; rw [if_neg q]; cases h; rfl

/-- steps that are no commas -/
inductive Run (s : ByteArray) : Nat → Nat → Prop
  | nil (k : Nat) : Run s k k
  | step {k i e : Nat} (hk : k < s.size) (hc : atB s k 44 = false) (h : stepW s k = some i) (r : Run s i e) : Run s k e
theorem Run.le {s : ByteArray} {k e : Nat} (h : Run s k e) : k ≤ e := by
  induction h with
  | nil k => exact Nat.le_refl _
  | step hk hc h r ih => have := stepW_lt hk h; omega
theorem Run.size {s : ByteArray} {k e : Nat} (h : Run s k e) (hk : k ≤ s.size) : e ≤ s.size := by
  induction h with
  | nil k => exact hk
  | step hk1 hc h r ih => exact ih (stepW_lt hk1 h).2
theorem Run.move {s t : ByteArray} {c d k e : Nat} (h : Run s k e) (hs : Smw s t c d k e) : Run t (k + d - c) (e + d - c) := by
  induction h with
  | nil k => exact .nil _
  | step hk hc h r ih =>
    have hl := stepW_lt hk h
    have hr := r.le
    exact .step (hs.lt (Nat.le_refl _) (by omega) hk) (by rw [hs.at (Nat.le_refl _) (by omega)]; exact hc) (stepW_move hk h (hs.upto hr)) (ih (hs.from (by omega)))
theorem Run.trans {s : ByteArray} {a b c : Nat} (h : Run s a b) (g : Run s b c) : Run s a c := by
  induction h with
  | nil k => exact g
  | step hk hc h r ih => exact .step hk hc h (ih g)
theorem splW_run {s : ByteArray} {k e b : Nat} {out : List ByteArray} (h : Run s k e) : splW s k b out = splW s e b out := by
  induction h with
  | nil k => rfl
  | step hk hc h r ih => rw [splW_some hk h, if_neg (by rw [hc]; decide), ih]
/-- where the next piece ends -/
theorem splW_piece {s : ByteArray} {b : Nat} {out r : List ByteArray} : ∀ (z k : Nat), s.size - k = z → k ≤ s.size → splW s k b out = some r →
    ∃ e, Run s k e ∧ e ≤ s.size ∧ ((e = s.size ∧ r = endW s b s.size out) ∨ (e < s.size ∧ atB s e 44 = true ∧ splW s (e + 1) (e + 1) (endW s b e out) = some r)) := by
  intro z
  induction z using Nat.strongRecOn with
  | _ z ih =>
    intro k hz hk h
    by_cases hlt : k < s.size
    · cases hst : stepW s k with
      | none => rw [splW_none hlt hst] at h; cases h
      | some i =>
        have hl := stepW_lt hlt hst
        rw [splW_some hlt hst] at h
        cases h44 : atB s k 44
        · rw [h44, if_neg (by decide)] at h
          obtain ⟨e, h1, h2⟩ := ih (s.size - i) (by omega) i rfl hl.2 h
          exact ⟨e, .step hlt h44 hst h1, h2⟩
        · rw [h44, if_pos rfl] at h
          have : i = k + 1 := by unfold stepW at hst; rw [h44, if_pos rfl] at hst; cases hst; rfl
          subst this
          exact ⟨k, .nil k, hk, .inr ⟨hlt, h44, h⟩⟩
    · rw [splW_end hlt] at h
      cases h
      exact ⟨k, .nil k, hk, .inl ⟨by omega, rfl⟩⟩

/-- blank, or beyond the end -/
def bkAt (s : ByteArray) (i : Nat) : Bool := (s.data.toList[i]?).all fun b => blkI (b.toNat : Int)
theorem bkAt_lt {s : ByteArray} {i : Nat} (h : i < s.size) : bkAt s i = blkI (s[i].toNat : Int) := by
  unfold bkAt; rw [at_lt h]; rfl
theorem bkAt_ge {s : ByteArray} {i : Nat} (h : s.size ≤ i) : bkAt s i = true := by
  unfold bkAt; rw [List.getElem?_eq_none (by rw [blen]; exact h)]; rfl
theorem lt_of_bk {s : ByteArray} {i : Nat} (h : bkAt s i = false) : i < s.size := Decidable.byContradiction fun hc => by rw [bkAt_ge (by omega)] at h; cases h
theorem bk_of_at {s : ByteArray} {i : Nat} {b : Int} (h : atB s i b = true) (hb : blkI b = false) : bkAt s i = false := by
  have hl := atB_iff h
  rw [atB_lt hl] at h
  rw [bkAt_lt hl, beq_iff_eq.1 h, hb]
theorem at_of_bk {s : ByteArray} {i : Nat} {b : Int} (h : bkAt s i = true) (hb : blkI b = false) : atB s i b = false := by
  cases e : atB s i b with
  | false => rfl
  | true => rw [bk_of_at e hb] at h; cases h

theorem cmtW_last {s : ByteArray} {j : Nat} : ∀ (z k n : Nat), s.size - k ≤ z → n ≠ 0 → k ≤ s.size → cmtW s k n = some j → k < j ∧ atB s (j - 1) 41 = true := by
  intro z
  induction z with
  | zero =>
    intro k n hz hn hk h
    unfold cmtW at h
    rw [if_neg hn, dif_neg (by omega)] at h
    cases h
  | succ z ih =>
    intro k n hz hn hk h
    unfold cmtW at h
    rw [if_neg hn] at h
    split at h
    · split at h
      · have := ih (k + 1) _ (by omega) (by omega) (by omega) h; exact ⟨by omega, this.2⟩
      · split at h
        · rename_i q
          by_cases h0 : n - 1 = 0
          · rw [h0] at h
            unfold cmtW at h
            rw [if_pos rfl] at h
            cases h
            exact ⟨by omega, q⟩
          · have := ih (k + 1) _ (by omega) h0 (by omega) h; exact ⟨by omega, this.2⟩
        · split at h
          · by_cases h1 : k + 1 < s.size
            · rw [if_pos h1] at h
              have := ih (k + 2) _ (by omega) hn (by omega) h; exact ⟨by omega, this.2⟩
            · rw [if_neg h1] at h
              have := ih (k + 1) _ (by omega) hn (by omega) h; exact ⟨by omega, this.2⟩
          · have := ih (k + 1) _ (by omega) hn (by omega) h; exact ⟨by omega, this.2⟩
    · cases h
theorem frontW_last {s : ByteArray} {j : Nat} {v : List UInt8} : ∀ (z k : Nat) (acc : List UInt8), s.size - k = z → frontW s k acc = some (v, j) → k < j ∧ atB s (j - 1) 34 = true := by
  intro z
  induction z using Nat.strongRecOn with
  | _ z ih =>
    intro k acc hz h
    have hle := frontW_le _ _ _ _ _ rfl h
    cases hq : atB s k 34
    · cases hn : nxt s k with
      | none => rw [frontW_none acc hq hn] at h; cases h
      | some bi =>
        obtain ⟨b, i⟩ := bi
        rw [frontW_some acc hq hn] at h
        have hl := nxt_lt hn
        exact ⟨hle.1, (ih (s.size - i) (by omega) i _ rfl h).2⟩
    · rw [frontW_end acc hq] at h
      cases h
      exact ⟨hle.1, hq⟩
theorem stepW_last {s : ByteArray} {k j : Nat} (hk : k < s.size) (h : stepW s k = some j) : j = k + 1 ∨ bkAt s (j - 1) = false := by
  unfold stepW at h
  split at h
  · cases h; exact .inl rfl
  · split at h
    · exact .inr (bk_of_at (cmtW_last _ (k + 1) 1 (Nat.le_refl _) (by decide) (by omega) h).2 (by decide))
    · split at h
      · rename_i q
        unfold frontS at h
        rw [if_pos q] at h
        cases hf : frontW s (k + 1) [] with
        | none => rw [hf] at h; cases h
        | some x =>
          obtain ⟨v, i⟩ := x
          rw [hf] at h
          cases h
          exact .inr (bk_of_at (frontW_last _ _ _ rfl hf).2 (by decide))
      · cases h; exact .inl rfl
theorem stepW_blank {s : ByteArray} {k : Nat} (h : bkAt s k = true) : stepW s k = some (k + 1) := by
  unfold stepW
  rw [at_of_bk h (by decide), at_of_bk h (by decide), at_of_bk h (by decide)]
  rfl
theorem Run.back {s : ByteArray} {k e : Nat} (h : Run s k e) (hk : k < e) (hb : bkAt s (e - 1) = true) : Run s k (e - 1) := by
  induction h with
  | nil k => omega
  | @step k i e hk' hc h r ih =>
    have hl := stepW_lt hk' h
    by_cases hie : i < e
    · exact .step hk' hc h (ih hie hb)
    · have := r.le
      obtain rfl : i = e := by omega
      rcases stepW_last hk' h with rfl | h2
      · exact .nil k
      · rw [hb] at h2; cases h2
theorem Run.fore {s : ByteArray} {k e : Nat} (h : Run s k e) (hk : k < e) (hb : bkAt s k = true) : Run s (k + 1) e := by
  cases h with
  | nil => omega
  | step hk' hc h r =>
    rw [stepW_blank hb] at h
    cases h
    exact r
theorem Run.backs {s : ByteArray} {k e : Nat} : ∀ (m q : Nat), q + m = e → k ≤ q → Run s k e → (∀ i, q ≤ i → i < e → bkAt s i = true) → Run s k q
  | 0, q, h, _, hr, _ => by rw [show q = e by omega]; exact hr
  | m + 1, q, h, hk, hr, hb => Run.backs (e := e - 1) m q (by omega) hk (hr.back (by omega) (hb _ (by omega) (by omega))) (fun i h1 h2 => hb i h1 (by omega))
theorem Run.fores {s : ByteArray} {e : Nat} : ∀ (m k p : Nat), k + m = p → p ≤ e → Run s k e → (∀ i, k ≤ i → i < p → bkAt s i = true) → Run s p e
  | 0, k, p, h, _, hr, _ => by rw [show p = k by omega]; exact hr
  | m + 1, k, p, h, hk, hr, hb => Run.fores m (k + 1) p (by omega) hk (hr.fore (by omega) (hb _ (by omega) (by omega))) (fun i h1 h2 => hb i (by omega) h2)

theorem first_of (P : Nat → Bool) : ∀ n, (∃ i, i < n ∧ P i = false) → ∃ p, p < n ∧ P p = false ∧ ∀ i, i < p → P i = true
  | 0, ⟨i, h, _⟩ => by omega
  | n + 1, h => by
    by_cases h2 : ∃ i, i < n ∧ P i = false
    · obtain ⟨p, h3, h4, h5⟩ := first_of P n h2
      exact ⟨p, by omega, h4, h5⟩
    · obtain ⟨i, h3, h4⟩ := h
      refine ⟨i, h3, h4, fun j hj => ?_⟩
      cases e : P j with
      | true => rfl
      | false => exact absurd ⟨j, by omega, e⟩ h2
theorem last_of (P : Nat → Bool) : ∀ n, (∃ i, i < n ∧ P i = false) → ∃ q, q < n ∧ P q = false ∧ ∀ i, q < i → i < n → P i = true
  | 0, ⟨i, h, _⟩ => by omega
  | n + 1, h => by
    cases e : P n with
    | false => exact ⟨n, by omega, e, fun i h1 h2 => by omega⟩
    | true =>
      obtain ⟨i, h3, h4⟩ := h
      have : i ≠ n := fun h => by rw [h, e] at h4; cases h4
      obtain ⟨q, h5, h6, h7⟩ := last_of P n ⟨i, by omega, h4⟩
      refine ⟨q, by omega, h6, fun j h1 h2 => ?_⟩
      by_cases hj : j = n
      · rw [hj, e]
      · exact h7 j h1 (by omega)
theorem trimC_of {s : ByteArray} {p q : Nat} (hpq : p < q) (hp : ∀ i, i < p → bkAt s i = true) (hq : ∀ i, q ≤ i → bkAt s i = true) (h1 : bkAt s p = false) (h2 : bkAt s (q - 1) = false) : trimC s spcS = s.extract p q := by
  have hql := lt_of_bk h2
  have hpl := lt_of_bk h1
  have hR : Lib.trimRightS s.data.toList [32, 9] = s.data.toList.take q := by
    have := trimRC_at (m := q - 1) hql (fun j hj hjq => by rw [← bkAt_lt hj]; exact hq j (by omega)) (by rw [← bkAt_lt hql]; exact h2)
    have := congrArg (fun x : ByteArray => x.data.toList) this
    simp only [exL, List.drop_zero] at this
    rw [show q - 1 + 1 = q by omega] at this
    exact this
  apply inL
  rw [exL]
  show Lib.trimS s.data.toList [32, 9] = _
  unfold Lib.trimS
  rw [hR]
  unfold Lib.trimLeftS
  have hb := blen s
  have hsp : s.data.toList.take q = (s.data.toList.take q).take p ++ (s.data.toList.take q).drop p := (List.take_append_drop _ _).symm
  conv => lhs; rw [hsp]
  rw [List.dropWhile_append_of_pos (fun x hx => by
    obtain ⟨j, hj, rfl⟩ := List.getElem_of_mem hx
    rw [List.length_take, List.length_take] at hj
    rw [List.getElem_take, List.getElem_take, blk_c]
    have := hp j (by omega)
    rw [bkAt_lt (by omega)] at this
    exact this)]
  have hd : (s.data.toList.take q).drop p = s.data.toList[p] :: (s.data.toList.take q).drop (p + 1) := by
    rw [List.drop_eq_getElem_cons (by rw [List.length_take]; omega), List.getElem_take]
  rw [hd, List.dropWhile_cons_of_neg (by rw [blk_c]; rw [bkAt_lt hpl] at h1; rw [show s.data.toList[p] = s[p] from rfl, h1]; decide)]
theorem trimC_blank {s : ByteArray} (h : ∀ i, bkAt s i = true) : (trimC s spcS).size = 0 := by
  have e : (trimC s spcS).size = (Lib.trimS s.data.toList [32, 9]).length := by unfold trimC; show (Array.size _) = _; rw [List.size_toArray]; rfl
  rw [e, List.length_eq_zero_iff, trimS_nil]
  intro x hx
  obtain ⟨j, hj, rfl⟩ := List.getElem_of_mem hx
  rw [blen] at hj
  have := h j
  rw [bkAt_lt hj] at this
  rw [blk_c]
  exact this
theorem trimC_cases (s : ByteArray) : (∀ i, bkAt s i = true) ∨ ∃ p q, p < q ∧ q ≤ s.size ∧ (∀ i, i < p → bkAt s i = true) ∧ (∀ i, q ≤ i → bkAt s i = true) ∧ bkAt s p = false ∧ bkAt s (q - 1) = false := by
  by_cases h : ∃ i, i < s.size ∧ bkAt s i = false
  · obtain ⟨p, p1, p2, p3⟩ := first_of _ _ h
    obtain ⟨q, q1, q2, q3⟩ := last_of _ _ h
    refine .inr ⟨p, q + 1, ?_, by omega, p3, fun i hi => ?_, p2, q2⟩
    · apply Decidable.byContradiction
      intro hc
      have := p3 q (by omega)
      rw [q2] at this; cases this
    · by_cases hi2 : i < s.size
      · exact q3 i (by omega) hi2
      · exact bkAt_ge (by omega)
  · refine .inl fun i => ?_
    cases e : bkAt s i with
    | true => rfl
    | false => exact absurd ⟨i, lt_of_bk e, e⟩ h

/-- a piece as it comes out: trimmed, not empty, one run of steps -/
structure Piece (x : ByteArray) : Prop where
  pos : 0 < x.size
  hd : bkAt x 0 = false
  tl : bkAt x (x.size - 1) = false
  run : Run x 0 x.size
theorem ext_get (s : ByteArray) (b e i : Nat) (h : b + i < e) (he : e ≤ s.size) : (s.extract b e).data.toList[i]? = s.data.toList[b + i]? := by
  rw [exL, List.getElem?_drop, List.getElem?_take_of_lt h]
theorem ext_bk {s : ByteArray} {b e i : Nat} (h : b + i < e) (he : e ≤ s.size) : bkAt (s.extract b e) i = bkAt s (b + i) := by
  unfold bkAt; rw [ext_get s b e i h he]
theorem ext_sz (s : ByteArray) (b e : Nat) (he : e ≤ s.size) : (s.extract b e).size = e - b := by rw [ByteArray.size_extract]; omega
theorem ext_ext2 (s : ByteArray) (b e p q : Nat) (hq : b + q ≤ e) : (s.extract b e).extract p q = s.extract (b + p) (b + q) := by
  apply inL
  rw [exL, exL, exL, List.take_drop, List.drop_drop, List.take_take, Nat.min_eq_left hq]
theorem run_ext {s : ByteArray} {k e : Nat} (h : Run s k e) (he : e ≤ s.size) : Run (s.extract k e) 0 (e - k) := by
  have := h.move (t := s.extract k e) (c := k) (d := 0) ⟨Nat.le_refl _, fun i h1 h2 => by
    rw [ext_get s k e _ (by omega) he]; congr 1; omega⟩
  simpa using this
theorem piece_good {s : ByteArray} {b e : Nat} (h : Run s b e) (hb : b ≤ e) (he : e ≤ s.size) (h0 : ¬ (trimC (s.extract b e) spcS).size = 0) : Piece (trimC (s.extract b e) spcS) := by
  rcases trimC_cases (s.extract b e) with h1 | ⟨p, q, hpq, hq, p1, q1, b1, b2⟩
  · exact absurd (trimC_blank h1) h0
  · rw [trimC_of hpq p1 q1 b1 b2, ]
    rw [ext_sz _ _ _ he] at hq
    rw [ext_ext2 s b e p q (by omega)]
    have r1 : Run s b (b + q) := Run.backs (e - (b + q)) (b + q) (by omega) (by omega) h (fun i h1 h2 => by
      have := q1 (i - b) (by omega)
      rwa [ext_bk (by omega) he, show b + (i - b) = i by omega] at this)
    have r2 : Run s (b + p) (b + q) := Run.fores p b (b + p) rfl (by omega) r1 (fun i h1 h2 => by
      have := p1 (i - b) (by omega)
      rwa [ext_bk (by omega) he, show b + (i - b) = i by omega] at this)
    have hsz := ext_sz s (b + p) (b + q) (by omega)
    refine ⟨by omega, ?_, ?_, ?_⟩
    · rw [ext_bk (by omega) (by omega), Nat.add_zero, ← ext_bk (s := s) (b := b) (e := e) (i := p) (by omega) he]; exact b1
    · rw [hsz, ext_bk (by omega) (by omega), show b + p + (b + q - (b + p) - 1) = b + (q - 1) by omega, ← ext_bk (s := s) (b := b) (e := e) (i := q - 1) (by omega) he]; exact b2
    · rw [hsz]; exact run_ext r2 (by omega)
theorem endW_good {s : ByteArray} {b e : Nat} {out : List ByteArray} (h : Run s b e) (he : e ≤ s.size) (ho : ∀ x ∈ out, Piece x) : ∀ x ∈ endW s b e out, Piece x := by
  unfold endW
  split
  · exact ho
  · rename_i h0
    intro x hx
    rcases List.mem_append.1 hx with hx | hx
    · exact ho x hx
    · rw [List.mem_singleton.1 hx]
      exact piece_good h h.le he h0
theorem splW_good {s : ByteArray} : ∀ (z k : Nat) (out r : List ByteArray), s.size - k = z → k ≤ s.size → splW s k k out = some r → (∀ x ∈ out, Piece x) → ∀ x ∈ r, Piece x := by
  intro z
  induction z using Nat.strongRecOn with
  | _ z ih =>
    intro k out r hz hk h ho
    obtain ⟨e, hr, he, h2 | ⟨h2, h3, h4⟩⟩ := splW_piece _ k rfl hk h
    · obtain ⟨rfl, rfl⟩ := h2
      exact endW_good hr he ho
    · have := hr.le
      exact ih (s.size - (e + 1)) (by omega) (e + 1) _ r rfl (by omega) h4 (endW_good hr he ho)
theorem splitW_good {s : ByteArray} {l : List ByteArray} (h : splitW s = some l) : ∀ x ∈ l, Piece x := splW_good _ 0 [] l rfl (by omega) h (by simp)

/-- within a greater text, behind b -/
theorem endW_move {s t : ByteArray} {b e c : Nat} {out : List ByteArray} (h : s.extract b e = t.extract (b + c) (e + c)) : endW s b e out = endW t (b + c) (e + c) out := by
  unfold endW; rw [h]
theorem app_lo {a b : ByteArray} {i : Nat} (h : i < a.size) : (a ++ b).data.toList[i]? = a.data.toList[i]? := by
  rw [app_l, List.getElem?_append_left (by rw [blen]; exact h)]
theorem app_hi {a b : ByteArray} {i : Nat} : (a ++ b).data.toList[a.size + i]? = b.data.toList[i]? := by
  rw [app_l, List.getElem?_append_right (by rw [blen]; omega), blen]; congr 1; omega
theorem app_ext {a b : ByteArray} {p q : Nat} (h : q ≤ a.size) : (a ++ b).extract p q = a.extract p q := by
  apply inL
  rw [exL, exL, app_l, List.take_append_of_le_length (by rw [blen]; exact h)]
theorem runB_app {a : ByteArray} {k e : Nat} (b : ByteArray) (h : Run a k e) (he : e ≤ a.size) : Run (a ++ b) k e := by
  have := h.move (t := a ++ b) (c := 0) (d := 0) ⟨Nat.zero_le _, fun i h1 h2 => by simp only [Nat.add_zero, Nat.sub_zero]; exact app_lo (by omega)⟩
  simpa using this
/-- what is split, with a comma and more behind it -/
theorem splW_app {s : ByteArray} (t : ByteArray) (ht : atB t 0 44 = true) : ∀ (z k : Nat) (out r : List ByteArray), s.size - k = z → k ≤ s.size → splW s k k out = some r → splW (s ++ t) k k out = splW (s ++ t) (s.size + 1) (s.size + 1) r := by
  have htl := atB_iff ht
  have hsz := app_size s t
  intro z
  induction z using Nat.strongRecOn with
  | _ z ih =>
    intro k out r hz hk h
    obtain ⟨e, hr, he, h2 | ⟨h2, h3, h4⟩⟩ := splW_piece _ k rfl hk h
    · obtain ⟨rfl, rfl⟩ := h2
      have h44 : atB (s ++ t) s.size 44 = true := by
        unfold atB at ht ⊢
        have := app_hi (a := s) (b := t) (i := 0)
        rw [Nat.add_zero] at this
        rw [this]; exact ht
      rw [splW_run (runB_app t hr (Nat.le_refl _)), splW_some (by omega) (j := s.size + 1) (by unfold stepW; rw [if_pos h44]), if_pos h44]
      have : endW (s ++ t) k s.size out = endW s k s.size out := by unfold endW; rw [app_ext (Nat.le_refl _)]
      rw [this]
    · have hle := hr.le
      have h44 : atB (s ++ t) e 44 = true := by unfold atB at h3 ⊢; rw [app_lo h2]; exact h3
      rw [splW_run (runB_app t hr he), splW_some (by omega) (j := e + 1) (by unfold stepW; rw [if_pos h44]), if_pos h44]
      have : endW (s ++ t) k e out = endW s k e out := by unfold endW; rw [app_ext he]
      rw [this]
      exact ih (s.size - (e + 1)) (by omega) (e + 1) _ r rfl (by omega) h4

theorem cut_pre {s x t : ByteArray} {a : Nat} (ha : a ≤ s.size) (h : s.extract a s.size = x ++ t) : a + x.size ≤ s.size ∧ s.extract a (a + x.size) = x ∧ s.extract (a + x.size) s.size = t := by
  have hl : s.data.toList.drop a = x.data.toList ++ t.data.toList := by
    rw [← cut_l, h, app_l]
  have hx := blen x
  have hs := blen s
  have h1 : a + x.size ≤ s.size := by
    have := congrArg List.length hl
    rw [List.length_drop, List.length_append] at this
    omega
  refine ⟨h1, ?_, ?_⟩
  · apply inL
    rw [exL, List.drop_take, hl, Nat.add_sub_cancel_left, List.take_append_of_le_length (by omega), List.take_of_length_le (by omega)]
  · apply inL
    rw [cut_l, ← List.drop_drop, hl, List.drop_append_of_le_length (by omega), List.drop_of_length_le (by omega), List.nil_append]
theorem Run.blanks {s : ByteArray} : ∀ (m k : Nat), (∀ i, k ≤ i → i < k + m → bkAt s i = true) → k + m ≤ s.size → Run s k (k + m)
  | 0, k, _, _ => .nil k
  | m + 1, k, h, hs => by
    have r := Run.blanks m (k + 1) (fun i h1 h2 => h i (by omega) (by omega)) (by omega)
    rw [show k + 1 + m = k + (m + 1) by omega] at r
    have hb := h k (Nat.le_refl _) (by omega)
    exact .step (by omega) (at_of_bk hb (by decide)) (stepW_blank hb) r
/-- a good piece behind blanks -/
theorem piece_at {s x : ByteArray} {b w : Nat} (hx : Piece x) (hw : ∀ i, b ≤ i → i < b + w → bkAt s i = true) (he : b + w + x.size ≤ s.size) (h : s.extract (b + w) (b + w + x.size) = x) (out : List ByteArray) :
    Run s b (b + w + x.size) ∧ endW s b (b + w + x.size) out = out ++ [x] := by
  have hpos := hx.pos
  have get : ∀ i, i < x.size → s.data.toList[b + w + i]? = x.data.toList[i]? := fun i hi => by
    conv => rhs; rw [← h]
    rw [ext_get s (b + w) (b + w + x.size) i (by omega) he]
  have bk : ∀ i, i < x.size → bkAt s (b + w + i) = bkAt x i := fun i hi => by unfold bkAt; rw [get i hi]
  have r2 := hx.run.move (t := s) (c := 0) (d := b + w) ⟨Nat.le_refl _, fun i _ h2 => by
    rw [show i + (b + w) - 0 = b + w + i by omega]; exact get i h2⟩
  rw [show 0 + (b + w) - 0 = b + w by omega, show x.size + (b + w) - 0 = b + w + x.size by omega] at r2
  refine ⟨(Run.blanks w b hw (by omega)).trans r2, ?_⟩
  have ht : trimC (s.extract b (b + w + x.size)) spcS = x := by
    rw [trimC_of (p := w) (q := w + x.size) (by omega) (fun i hi => by rw [ext_bk (by omega) he]; exact hw _ (by omega) (by omega)) (fun i hi => bkAt_ge (by rw [ext_sz _ _ _ he]; omega))
      (by rw [ext_bk (by omega) he]; have := bk 0 hpos; rw [Nat.add_zero] at this; rw [this]; exact hx.hd)
      (by rw [ext_bk (by omega) he, show b + (w + x.size - 1) = b + w + (x.size - 1) by omega, bk _ (by omega)]; exact hx.tl)]
    rw [ext_ext2 _ _ _ _ _ (by omega), ← Nat.add_assoc]
    exact h
  unfold endW
  rw [ht, if_neg (by omega)]
theorem comS_get (t : ByteArray) : (comS ++ t).data.toList[0]? = some 44 ∧ (comS ++ t).data.toList[1]? = some 32 := by
  rw [app_l]; exact ⟨rfl, rfl⟩
theorem join_split : ∀ (l : List ByteArray), l ≠ [] → (∀ x ∈ l, Piece x) → ∀ (s : ByteArray) (b w : Nat) (out : List ByteArray), b + w ≤ s.size → (∀ i, b ≤ i → i < b + w → bkAt s i = true) → s.extract (b + w) s.size = joinC comS l → splW s b b out = some (out ++ l)
  | [], h, _, _, _, _, _, _, _, _ => absurd rfl h
  | [x], _, hg, s, b, w, out, hb, hw, h => by
    rw [joinC_one] at h
    have e : b + w + x.size = s.size := by rw [← h, ext_sz _ _ _ (Nat.le_refl _)]; omega
    obtain ⟨r, he⟩ := piece_at (hg x (.head _)) hw (by omega) (by rw [e]; exact h) out
    rw [e] at r he
    rw [splW_run r, splW_end (by omega), he]
  | x :: y :: r, _, hg, s, b, w, out, hb, hw, h => by
    rw [joinC_cons (by simp), ByteArray.append_assoc] at h
    obtain ⟨h1, h2, h3⟩ := cut_pre hb h
    obtain ⟨k1, k2, k3⟩ := cut_pre h1 h3
    obtain ⟨hr, he⟩ := piece_at (hg x (.head _)) hw h1 h2 out
    have c2 : comS.size = 2 := rfl
    rw [c2] at k1 k2 k3
    generalize b + w + x.size = e at *
    have g : ∀ i, e + i < s.size → s.data.toList[e + i]? = (comS ++ joinC comS (y :: r)).data.toList[i]? := fun i hi => by
      rw [← h3, ext_get s e s.size i hi (Nat.le_refl _)]
    have h44 : atB s e 44 = true := by
      unfold atB
      have := g 0 (by omega)
      rw [Nat.add_zero] at this
      rw [this, (comS_get _).1]; rfl
    have h32 : bkAt s (e + 1) = true := by
      unfold bkAt
      rw [g 1 (by omega), (comS_get _).2]; rfl
    rw [splW_run hr, splW_some (by omega) (j := e + 1) (by unfold stepW; rw [if_pos h44]), if_pos h44, he]
    rw [join_split (y :: r) (by simp) (fun z hz => hg z (.tail _ hz)) s (e + 1) 1 (out ++ [x]) (by omega) (fun i i1 i2 => by rw [show i = e + 1 by omega]; exact h32) (by rw [show e + 1 + 1 = e + 2 by omega]; exact k3)]
    simp
theorem join_back (l : List ByteArray) (hg : ∀ x ∈ l, Piece x) : splitW (joinC comS l) = some l := by
  cases l with
  | nil => decide +kernel
  | cons x r =>
    have := join_split (x :: r) (by simp) hg (joinC comS (x :: r)) 0 0 [] (Nat.zero_le _) (fun i h1 h2 => by omega) (by rw [Nat.add_zero, ByteArray.extract_zero_size])
    simpa [splitW] using this

theorem trimC_cut {m : ByteArray} {q : Nat} (hq : q ≤ m.size) (hb : ∀ i, q ≤ i → bkAt m i = true) : trimC m spcS = trimC (m.extract 0 q) spcS := by
  have bk : ∀ i, i < q → bkAt (m.extract 0 q) i = bkAt m i := fun i hi => by rw [ext_bk (by omega) hq, Nat.zero_add]
  have big : ∀ i, q ≤ i → bkAt (m.extract 0 q) i = true := fun i hi => bkAt_ge (by rw [ext_sz _ _ _ hq]; omega)
  rcases trimC_cases m with h | ⟨p, q2, hpq, hq2, p1, q1, b1, b2⟩
  · rw [(emp_iff _).2 (trimC_blank h), (emp_iff _).2 (trimC_blank (s := m.extract 0 q) fun i => by
      by_cases hi : i < q
      · rw [bk i hi]; exact h i
      · exact big i (by omega))]
  · have hlt : q2 - 1 < q := Decidable.byContradiction fun hc => by rw [hb _ (by omega)] at b2; cases b2
    rw [trimC_of hpq p1 q1 b1 b2, trimC_of (s := m.extract 0 q) hpq (fun i hi => by rw [bk i (by omega)]; exact p1 i hi) (fun i hi => by
      by_cases h2 : i < q
      · rw [bk i h2]; exact q1 i hi
      · exact big i (by omega)) (by rw [bk p (by omega)]; exact b1) (by rw [bk _ hlt]; exact b2), ext_ext2 _ _ _ _ _ (by omega), Nat.zero_add, Nat.zero_add]
/-- trailing blanks change nothing -/
theorem splW_trim {s : ByteArray} {q : Nat} (hq : q ≤ s.size) (hb : ∀ i, q ≤ i → bkAt s i = true) : ∀ (z k : Nat) (out r : List ByteArray), s.size - k = z → k ≤ q → splW s k k out = some r → splW (s.extract 0 q) k k out = some r := by
  have hsz := ext_sz s 0 q hq
  have mv : ∀ {k e : Nat}, Run s k e → e ≤ q → Run (s.extract 0 q) k e := fun {k e} hr he => by
    have := hr.move (t := s.extract 0 q) (c := 0) (d := 0) ⟨Nat.zero_le _, fun i h1 h2 => by
      rw [show i + 0 - 0 = i by omega, ext_get s 0 q i (by omega) hq, Nat.zero_add]⟩
    simpa using this
  intro z
  induction z using Nat.strongRecOn with
  | _ z ih =>
    intro k out r hz hk h
    obtain ⟨e, hr, he, h2 | ⟨h2, h3, h4⟩⟩ := splW_piece _ k rfl (by omega) h
    · obtain ⟨rfl, rfl⟩ := h2
      have r1 : Run s k q := Run.backs (s.size - q) q (by omega) hk hr (fun i h1 _ => hb i h1)
      rw [splW_run (mv r1 (Nat.le_refl _)), splW_end (by omega), hsz]
      have : trimC (s.extract k s.size) spcS = trimC ((s.extract 0 q).extract k q) spcS := by
        rw [trimC_cut (m := s.extract k s.size) (q := q - k) (by rw [ext_sz _ _ _ (Nat.le_refl _)]; omega) (fun i hi => by
          by_cases h5 : k + i < s.size
          · rw [ext_bk h5 (Nat.le_refl _)]; exact hb _ (by omega)
          · exact bkAt_ge (by rw [ext_sz _ _ _ (Nat.le_refl _)]; omega)), ext_ext2 _ _ _ _ _ (by omega), ext_ext2 _ _ _ _ _ (by omega)]
        simp only [Nat.add_zero, Nat.zero_add]
        rw [show k + (q - k) = q by omega]
      unfold endW
      rw [show q - 0 = q by omega, this]
    · have heq : e < q := Decidable.byContradiction fun hc => by
        have := hb e (by omega)
        rw [bk_of_at h3 (by decide)] at this; cases this
      have h44 : atB (s.extract 0 q) e 44 = true := by unfold atB at h3 ⊢; rw [ext_get s 0 q e (by omega) hq, Nat.zero_add]; exact h3
      rw [splW_run (mv hr (by omega)), splW_some (by omega) (j := e + 1) (by unfold stepW; rw [if_pos h44]), if_pos h44]
      have : endW (s.extract 0 q) k e out = endW s k e out := by unfold endW; rw [ext_ext2 _ _ _ _ _ (by omega), Nat.zero_add, Nat.zero_add]
      rw [this]
      have := hr.le
      exact ih (s.size - (e + 1)) (by omega) (e + 1) _ r rfl (by omega) h4
theorem splW_bc {s : ByteArray} (ha : allI bcI s = true) : ∀ (z k : Nat) (out r : List ByteArray), s.size - k = z → k ≤ s.size → splW s k k out = some r → r = out := by
  have run : ∀ {k e : Nat}, Run s k e → ∀ i, k ≤ i → i < e → bkAt s i = true := by
    intro k e h
    induction h with
    | nil k => intro i h1 h2; omega
    | @step k j e hk hc hst r ih =>
      intro i h1 h2
      have hb : bkAt s k = true := by
        have := allI_at ha k hk
        rw [atB_lt hk] at hc
        rw [bkAt_lt hk]
        unfold bcI at this
        rw [hc, Bool.or_false] at this
        exact this
      rw [stepW_blank hb] at hst
      cases hst
      by_cases e1 : i = k
      · rw [e1]; exact hb
      · exact ih i (by omega) h2
  have fin : ∀ {k e : Nat} (out : List ByteArray), Run s k e → e ≤ s.size → endW s k e out = out := fun {k e} out hr he => by
    unfold endW
    rw [if_pos (trimC_blank fun i => by
      by_cases hi : k + i < e
      · rw [ext_bk hi he]; exact run hr _ (by omega) hi
      · exact bkAt_ge (by rw [ext_sz _ _ _ he]; omega))]
  intro z
  induction z using Nat.strongRecOn with
  | _ z ih =>
    intro k out r hz hk h
    obtain ⟨e, hr, he, h2 | ⟨h2, h3, h4⟩⟩ := splW_piece _ k rfl hk h
    · obtain ⟨rfl, rfl⟩ := h2
      exact fin out hr he
    · rw [fin out hr he] at h4
      have := hr.le
      exact ih (s.size - (e + 1)) (by omega) (e + 1) _ r rfl (by omega) h4
theorem append_back {a : ByteArray} {la lb : List ByteArray} (h : splitW a = some la) (hg : ∀ x ∈ lb, Piece x) : splitW (appW a lb) = some (la ++ lb) := by
  unfold appW
  by_cases h0 : lb = []
  · rw [if_pos h0, h0, List.append_nil]; exact h
  · rw [if_neg h0]
    by_cases h1 : allI bcI a = true
    · rw [if_pos h1]
      have : la = [] := splW_bc h1 _ 0 [] la rfl (Nat.zero_le _) h
      rw [this, List.nil_append]
      exact join_back lb hg
    · rw [if_neg h1, joinC_cons h0, ByteArray.append_assoc]
      have hex : ∃ i, i < a.size ∧ bkAt a i = false := by
        apply Decidable.byContradiction
        intro hc
        refine h1 (allI_true fun i hi => ?_)
        cases e : bkAt a i with
        | true => rw [bkAt_lt hi] at e; unfold bcI; rw [e]; rfl
        | false => exact absurd ⟨i, hi, e⟩ hc
      obtain ⟨q, q1, q2, q3⟩ := last_of _ _ hex
      have ht : trimRC a spcS = a.extract 0 (q + 1) := trimRC_at q1 (fun j hj hjq => by rw [← bkAt_lt hj]; exact q3 j hjq hj) (by rw [← bkAt_lt q1]; exact q2)
      have h2 : splW (trimRC a spcS) 0 0 [] = some la := by
        rw [ht]
        exact splW_trim (by omega) (fun i hi => by
          by_cases hi2 : i < a.size
          · exact q3 i (by omega) hi2
          · exact bkAt_ge (by omega)) _ 0 [] la rfl (Nat.zero_le _) h
      generalize trimRC a spcS = a' at *
      have ha : atB (comS ++ joinC comS lb) 0 44 = true := by unfold atB; rw [(comS_get _).1]; rfl
      unfold splitW
      rw [splW_app _ ha _ 0 [] la rfl (Nat.zero_le _) h2]
      have c2 : comS.size = 2 := rfl
      have hs1 := app_size a' (comS ++ joinC comS lb)
      have hs2 := app_size comS (joinC comS lb)
      have hcut : (a' ++ (comS ++ joinC comS lb)).extract (a'.size + 1 + 1) (a' ++ (comS ++ joinC comS lb)).size = joinC comS lb := by
        apply inL
        rw [cut_l, app_l, app_l, List.drop_append, List.drop_of_length_le (by rw [blen]; omega), blen, List.nil_append, show a'.size + 1 + 1 - a'.size = 2 by omega]
        rfl
      exact join_split lb h0 hg _ (a'.size + 1) 1 la (by omega) (fun i i1 i2 => by
        rw [show i = a'.size + 1 by omega]
        unfold bkAt
        rw [app_hi, (comS_get _).2]; rfl) hcut

theorem trimC_size (s : ByteArray) : (trimC s spcS).size ≤ s.size := by
  have e : (trimC s spcS).size = (Lib.trimS s.data.toList [32, 9]).length := by unfold trimC; show (Array.size _) = _; rw [List.size_toArray]; rfl
  rw [e, ← blen]
  unfold Lib.trimS Lib.trimLeftS Lib.trimRightS
  refine Nat.le_trans (List.dropWhile_sublist _).length_le ?_
  rw [List.length_reverse]
  refine Nat.le_trans (List.dropWhile_sublist _).length_le ?_
  rw [List.length_reverse]
  exact Nat.le_refl _
theorem endW_size {s : ByteArray} {b e : Nat} {out : List ByteArray} (he : e ≤ s.size) : ∀ x ∈ endW s b e out, x ∈ out ∨ x.size ≤ s.size := by
  intro x hx
  unfold endW at hx
  split at hx
  · exact .inl hx
  · rcases List.mem_append.1 hx with h | h
    · exact .inl h
    · rw [List.mem_singleton.1 h]
      have := trimC_size (s.extract b e)
      rw [ext_sz _ _ _ he] at this
      exact .inr (by omega)
theorem splW_bound {s : ByteArray} : ∀ (z k : Nat) (out r : List ByteArray), s.size - k = z → k ≤ s.size → splW s k k out = some r → r.length ≤ out.length + z + 1 ∧ ∀ x ∈ r, x ∈ out ∨ x.size ≤ s.size := by
  intro z
  induction z using Nat.strongRecOn with
  | _ z ih =>
    intro k out r hz hk h
    obtain ⟨e, hr, he, h2 | ⟨h2, h3, h4⟩⟩ := splW_piece _ k rfl hk h
    · obtain ⟨rfl, rfl⟩ := h2
      have := endW_len s k s.size out
      exact ⟨by omega, endW_size he⟩
    · have h5 := endW_len s k e out
      have := hr.le
      obtain ⟨i1, i2⟩ := ih (s.size - (e + 1)) (by omega) (e + 1) _ r rfl (by omega) h4
      refine ⟨by omega, fun x hx => ?_⟩
      rcases i2 x hx with h6 | h6
      · exact endW_size he x h6
      · exact .inr h6
theorem split_bound {s : ByteArray} {l : List ByteArray} (h : splitW s = some l) (hs : s.size ≤ 80) : l.length ≤ 81 ∧ (joinC comS l).size ≤ 6642 := by
  obtain ⟨h1, h2⟩ := splW_bound _ 0 [] l rfl (Nat.zero_le _) h
  have h3 : l.length ≤ 81 := by simp at h1; omega
  have := joinC_bound comS l (fun x hx => by
    rcases h2 x hx with h4 | h4
    · simp at h4
    · omega)
  have h5 : l.length * (80 + comS.size) ≤ 81 * 82 := Nat.mul_le_mul h3 (by decide)
  exact ⟨h3, by omega⟩
end Go.Proofs.YtgaidgblihnldaaGreatDoor
