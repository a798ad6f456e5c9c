/- Hosts, paths and targets of requests: in plain words, and walked. No statement of its own. -/
import Derived.Test.YthnmbfiandpedaaGreatDoorHGnu
import Derived.Test.YthnmbfiandpedaaGreatDoorHGpf
import Derived.Test.YthnmbfiandpedaaGreatDoorHGpa
import Derived.Test.YthnmbfiandpedaaGreatDoorHGsb
set_option linter.unusedSimpArgs false
set_option linter.unusedVariables false
set_option maxRecDepth 100000
namespace Go.Proofs.YthnmbfiandpedaaGreatDoor
open Go.RowKit

def oneI (l : ByteArray) (n : Int) : Bool := decide (0 ≤ Lib.indexByte l.data.toList n.toNat.toUInt8)
def unrS : ByteArray := ⟨#[45, 46, 95, 126]⟩
def subS : ByteArray := ⟨#[33, 36, 38, 39, 40, 41, 42, 43, 44, 59, 61]⟩
def colS : ByteArray := ⟨#[58, 64]⟩
def unrI (n : Int) : Bool := alpI n || digI n || oneI unrS n
def subI (n : Int) : Bool := oneI subS n
def pthI (n : Int) : Bool := unrI n || subI n || oneI colS n
theorem unr_p (n : Int) (h0 : 0 ≤ n) (h1 : n ≤ 255) : APure Tryz.prog 253 [.int .u8 n] (.b (unrI n)) [] := by
  refine APure.of rfl (ACalls.of_vc T_ok mixed Tryz.func253 rfl Tryz.call253 ?_)
  unfold unrI
  refine .p rfl (isAlpha_p n h0 h1) ?_
  cases alpI n with
  | true => exact retb rfl
  | false =>
    refine .p rfl (isDigit_p n) ?_
    cases digI n with
    | true => exact retb rfl
    | false =>
      refine .p rfl (one_p n unrS) ?_
      exact retb rfl
theorem sub_p (n : Int) : APure Tryz.prog 254 [.int .u8 n] (.b (subI n)) [] := by
  refine APure.of rfl (ACalls.of_vc T_ok mixed Tryz.func254 rfl Tryz.call254 ?_)
  refine .p rfl (one_p n subS) ?_
  exact retb rfl
theorem pth_p (n : Int) (h0 : 0 ≤ n) (h1 : n ≤ 255) : APure Tryz.prog 330 [.int .u8 n] (.b (pthI n)) [] := by
  refine APure.of rfl (ACalls.of_vc T_ok mixed Tryz.func330 rfl Tryz.call330 ?_)
  unfold pthI
  refine .p rfl (unr_p n h0 h1) ?_
  cases unrI n with
  | true => exact retb rfl
  | false =>
    refine .p rfl (sub_p n) ?_
    cases subI n with
    | true => exact retb rfl
    | false =>
      refine .p rfl (one_p n colS) ?_
      exact retb rfl
theorem hexq_p (n : Int) (h0 : 0 ≤ n) (h1 : n ≤ 255) : APure Tryz.prog 291 [.int .u8 n] (.b (hexI n)) [] := by
  refine APure.of rfl (ACalls.of_vc T_ok mixed Tryz.func291 rfl Tryz.call291 ?_)
  unfold hexI
  refine .p rfl (isDigit_p n) ?_
  cases digI n with
  | true => exact retb rfl
  | false =>
    refine .p rfl (lower_p n h0 h1) ?_
    refine cnd_split (fun h => ?_) (fun h => ?_)
    · refine .p rfl (lower_p n h0 h1) ?_
      exact retb (by rw [show decide (97 ≤ lowI n) = true from h]; rfl)
    · exact retb (by rw [show decide (97 ≤ lowI n) = false from h]; rfl)
theorem hexq_f : ByteF 291 hexI := hexq_p

def percB (s : ByteArray) : Bool := decide (3 ≤ s.size) && (atB s 0 37 && allI hexI (s.extract 1 3))
theorem perc_p (s : ByteArray) (hs : s.size ≤ 4000000000) : APure Tryz.prog 252 [.s s] (.b (percB s)) [] := by
  have hmx : maxLen = 9223372036854775807 := rfl
  refine APure.of rfl (ACalls.of_vc T_ok mixed Tryz.func252 rfl Tryz.call252 ?_)
  unfold percB
  refine cnd_split (fun h => ?_) (fun h => ?_)
  · have h := of_decide_eq_true h
    have h3 : 3 ≤ s.size := by omega
    have h0 : 0 < s.size := by omega
    refine ⟨0, h0, rfl, ?_⟩
    rw [atB_lt h0, decide_eq_true h3]
    refine cnd_split (fun h => ?_) (fun h => ?_)
    · refine ⟨3, rfl, 1, rfl, by omega, by omega, ?_⟩
      have hx : (s.extract 1 3).size ≤ maxLen := by rw [ByteArray.size_extract]; omega
      generalize s.extract 1 3 = x at hx ⊢
      refine .p rfl (allF_p hexq_f x hx) ?_
      exact retb (by rw [h]; rfl)
    · exact retb (by rw [h]; rfl)
  · have h := of_decide_eq_false h
    exact retb (by rw [decide_eq_false (by omega : ¬ 3 ≤ s.size)]; rfl)
def nameW (s : ByteArray) : Bool :=
  if h : s.size = 0 then true
  else if percB s then nameW (s.extract 3 s.size)
  else if unrI (s[0]'(by omega)).toNat || subI (s[0]'(by omega)).toNat then nameW (s.extract 1 s.size)
  else false
termination_by s.size
decreasing_by
  all_goals
    rw [ByteArray.size_extract]
    omega
def nameB (s : ByteArray) : Bool := !decide (s.size = 0) && nameW s
theorem nameW_0 {s : ByteArray} (h : s.size = 0) : nameW s = true := by unfold nameW; rw [dif_pos h]
theorem nameW_1 {s : ByteArray} (h : s.size ≠ 0) (h1 : percB s = true) : nameW s = nameW (s.extract 3 s.size) := by
  conv => lhs; unfold nameW
  rw [dif_neg h, if_pos h1]
theorem nameW_2 {s : ByteArray} (h : 0 < s.size) (h1 : percB s = false) (h2 : (unrI (s[0]'h).toNat || subI (s[0]'h).toNat) = true) : nameW s = nameW (s.extract 1 s.size) := by
  conv => lhs; unfold nameW
  rw [dif_neg (by omega), if_neg (by rw [h1]; decide), if_pos h2]
theorem nameW_3 {s : ByteArray} (h : 0 < s.size) (h1 : percB s = false) (h2 : (unrI (s[0]'h).toNat || subI (s[0]'h).toNat) = false) : nameW s = false := by
  unfold nameW
  rw [dif_neg (by omega), if_neg (by rw [h1]; decide), if_neg (by rw [h2]; decide)]
theorem name_p (s : ByteArray) (hs : s.size ≤ 4000000000) : APure Tryz.prog 207 [.s s] (.b (nameB s)) [] := by
  have hmx : maxLen = 9223372036854775807 := rfl
  refine APure.of rfl (ACalls.of_vc T_ok mixed Tryz.func207 rfl Tryz.call207 ?_)
  unfold nameB
  intro t ht
  cases t with
  | true =>
    have h0 := (emp_iff s).1 (ht.1 rfl)
    exact retb (by rw [decide_eq_true h0]; rfl)
  | false =>
    have h0 : s.size ≠ 0 := fun h => by have := ht.2 ((emp_iff s).2 h); cases this
    rw [decide_eq_false h0]
    refine vc_loop [0] (fun g vals st' => ∃ x : ByteArray, vals = [.s x] ∧ x.size = g ∧ x.size ≤ s.size ∧ nameW x = nameW s) s.size rfl ⟨s, rfl, rfl, Nat.le_refl _, rfl⟩ ?_
    rintro g vals st' ⟨x, rfl, rfl, hx, hw⟩
    intro t ht
    cases t with
    | false =>
      have e0 : x.size = 0 := (emp_iff x).1 (ht.1 rfl)
      exact retb (by rw [← hw, nameW_0 e0]; rfl)
    | true =>
      have e0 : 0 < x.size := by
        rcases Nat.eq_zero_or_pos x.size with h | h
        · have := ht.2 ((emp_iff x).2 h); cases this
        · exact h
      refine .p rfl (perc_p x (by omega)) ?_
      cases hp : percB x with
      | true =>
        have h3 : 3 ≤ x.size := by
          unfold percB at hp
          simp only [Bool.and_eq_true, decide_eq_true_eq] at hp
          exact hp.1
        refine ⟨3, rfl, h3, Nat.le_refl _, ?_⟩
        exact ⟨_, by rw [ByteArray.size_extract]; omega, x.extract 3 x.size, rfl, rfl, by rw [ByteArray.size_extract]; omega, (nameW_1 (by omega) hp).symm.trans hw⟩
      | false =>
        have hn := x[0].toNat_lt
        refine ⟨0, e0, rfl, ?_⟩
        refine .p rfl (unr_p _ (by omega) (by omega)) ?_
        cases hu : unrI (x[0].toNat : Int) with
        | true =>
          refine ⟨1, rfl, e0, Nat.le_refl _, ?_⟩
          exact ⟨_, by rw [ByteArray.size_extract]; omega, x.extract 1 x.size, rfl, rfl, by rw [ByteArray.size_extract]; omega, (nameW_2 e0 hp (by rw [hu]; rfl)).symm.trans hw⟩
        | false =>
          refine ⟨0, e0, rfl, ?_⟩
          refine .p rfl (sub_p _) ?_
          cases hu2 : subI (x[0].toNat : Int) with
          | true =>
            refine ⟨1, rfl, e0, Nat.le_refl _, ?_⟩
            exact ⟨_, by rw [ByteArray.size_extract]; omega, x.extract 1 x.size, rfl, rfl, by rw [ByteArray.size_extract]; omega, (nameW_2 e0 hp (by rw [hu, hu2]; rfl)).symm.trans hw⟩
          | false =>
            exact retb (by rw [← hw, nameW_3 e0 hp (by rw [hu, hu2]; rfl)]; rfl)

/-- how many groups stand in a part; 0: it is none -/
def grpD (q : Bool) (x : ByteArray) : Int := if (q && fourB x) = true then 2 else if (decide (1 ≤ x.size) && (decide (x.size ≤ 4) && allI hexI x)) = true then 1 else 0
def grpL (last : Bool) : List ByteArray → Int → Int
  | [], n => n
  | x :: r, n => if grpD (last && r.isEmpty) x = 0 then -1 else grpL last r (n + grpD (last && r.isEmpty) x)
def grpB (s : ByteArray) (last : Bool) : Int := if s.size = 0 then 0 else grpL last (splG s ⟨#[58]⟩) 0
theorem grpD_le (q : Bool) (x : ByteArray) : 0 ≤ grpD q x ∧ grpD q x ≤ 2 := by
  unfold grpD
  split
  · omega
  split
  · omega
  · omega
theorem grpL_cons (last : Bool) (x : ByteArray) (r : List ByteArray) (n : Int) : grpL last (x :: r) n = if grpD (last && r.isEmpty) x = 0 then -1 else grpL last r (n + grpD (last && r.isEmpty) x) := rfl
theorem grpL_le (last : Bool) : ∀ (l : List ByteArray) (n : Int), 0 ≤ n → -1 ≤ grpL last l n ∧ grpL last l n ≤ n + 2 * l.length
  | [], n, h => by unfold grpL; simp; omega
  | x :: r, n, h => by
    unfold grpL
    have hd := grpD_le (last && r.isEmpty) x
    split
    · simp only [List.length_cons]
      omega
    · have := grpL_le last r (n + grpD (last && r.isEmpty) x) (by omega)
      simp only [List.length_cons]
      omega
theorem grpB_le (last : Bool) (s : ByteArray) : -1 ≤ grpB s last ∧ grpB s last ≤ 2 * s.size + 2 := by
  unfold grpB
  split
  · omega
  · have := grpL_le last (splG s ⟨#[58]⟩) 0 (by omega)
    have := splG_len s ⟨#[58]⟩ (by decide)
    omega
set_option maxHeartbeats 1000000 in
theorem grp_p (s : ByteArray) (hs : s.size ≤ 4000000000) (last : Bool) : APure Tryz.prog 250 [.s s, .b last] (.i (grpB s last)) [] := by
  have hmx : maxLen = 9223372036854775807 := rfl
  refine APure.of rfl (ACalls.of_vc T_ok mixed Tryz.func250 rfl Tryz.call250 ?_)
  unfold grpB
  intro t ht
  cases t with
  | true =>
    rw [if_pos ((emp_iff s).1 (ht.1 rfl))]
    exact rfl
  | false =>
    rw [if_neg (fun h => by have := ht.2 ((emp_iff s).2 h); cases this)]
    refine .p rfl (splitG_p s ⟨#[58]⟩ hs (by decide)) ?_
    have hlen := splG_len s ⟨#[58]⟩ (by decide)
    have hsz := splG_size (sep := ⟨#[58]⟩) (by decide) s.size s (Nat.le_refl _)
    generalize splG s ⟨#[58]⟩ = l at hlen hsz ⊢
    have el := strL_len l
    refine vc_loop [6, 15] (fun g vals st' => ∃ (k : Nat) (n : Int), vals = [.i n, .i k] ∧ k + g = l.length ∧ 0 ≤ n ∧ n ≤ 2 * k ∧ grpL last (l.drop k) n = grpL last l 0) l.length rfl ⟨0, 0, rfl, by omega, by omega, by omega, rfl⟩ ?_
    rintro g vals st' ⟨k, n, rfl, hg, hn0, hn, hw⟩
    refine cnd_split (fun hd => ?_) (fun hd => ?_)
    · have hd := of_decide_eq_true hd
      rw [el] at hd
      have k1 : k < l.length := by omega
      have hxs := hsz l[k] (List.getElem_mem k1)
      have hdr : l.drop k = l[k] :: l.drop (k + 1) := List.drop_eq_getElem_cons k1
      have hrest : (l.drop (k + 1)).isEmpty = decide (k + 1 = l.length) := by
        rw [Bool.eq_iff_iff, List.isEmpty_iff, List.drop_eq_nil_iff, decide_eq_true_iff]
        omega
      refine ⟨k, _, rfl, strL_at k1, ?_⟩
      rw [hdr] at hw
      generalize l[k] = x at hxs hw ⊢
      rw [grpL_cons, hrest] at hw
      have hx : x.size ≤ maxLen := by omega
      have go : ∀ d : Int, grpD (last && decide (k + 1 = l.length)) x = d → d ≠ 0 → grpL last (l.drop (k + 1)) (n + d) = grpL last l 0 := fun d hd hne => by
        rw [hd, if_neg hne] at hw
        exact hw
      have bad : grpD (last && decide (k + 1 = l.length)) x = 0 → -1 = grpL last l 0 := fun hd => by
        rw [if_pos hd] at hw
        exact hw
      clear hw
      cases last with
      | false =>
        refine cnd_split (fun h2 => ?_) (fun h2 => ?_)
        · have h2 := of_decide_eq_true h2
          refine cnd_split (fun h3 => ?_) (fun h3 => ?_)
          · have h3 := of_decide_eq_true h3
            have d1 : decide (1 ≤ x.size) = true := decide_eq_true (by omega)
            have d2 : decide (x.size ≤ 4) = true := decide_eq_true (by omega)
            refine .p rfl (allF_p hexq_f x hx) ?_
            cases ha : allI hexI x with
            | true =>
              intro c hc
              rw [IntWalk.i64_in _ (by omega)] at hc
              subst hc
              intro c hc
              rw [IntWalk.i64_in _ (by omega)] at hc
              obtain rfl : c = ((k + 1 : Nat) : Int) := by omega
              exact ⟨g - 1, by omega, k + 1, n + 1, rfl, by omega, by omega, by omega, go 1 (by unfold grpD; simp [ha, d1, d2, h2]) (by decide)⟩
            | false =>
              exact reti (bad (by unfold grpD; simp [ha, h2]))
          · have h3 := of_decide_eq_false h3
            have d2 : decide (x.size ≤ 4) = false := decide_eq_false (by omega)
            exact reti (bad (by unfold grpD; simp [d2, h2]))
        · have h2 := of_decide_eq_false h2
          have d1 : decide (1 ≤ x.size) = false := decide_eq_false (by omega)
          exact reti (bad (by unfold grpD; simp [d1, h2]))
      | true =>
        intro c hc
        rw [el, IntWalk.i64_in _ (by omega)] at hc
        refine cnd_split (fun h1 => ?_) (fun h1 => ?_)
        · have h1 := eq_of_beq h1
          have e1 : decide (k + 1 = l.length) = true := decide_eq_true (by omega)
          rw [e1] at go bad
          refine .p rfl (four_p x (by omega)) ?_
          cases hf : fourB x with
          | true =>
            intro c hc
            rw [IntWalk.i64_in _ (by omega)] at hc
            subst hc
            intro c hc
            rw [IntWalk.i64_in _ (by omega)] at hc
            obtain rfl : c = ((k + 1 : Nat) : Int) := by omega
            exact ⟨g - 1, by omega, k + 1, n + 2, rfl, by omega, by omega, by omega, go 2 (by unfold grpD; rw [hf]; rfl) (by decide)⟩
          | false =>
            refine cnd_split (fun h2 => ?_) (fun h2 => ?_)
            · have h2 := of_decide_eq_true h2
              refine cnd_split (fun h3 => ?_) (fun h3 => ?_)
              · have h3 := of_decide_eq_true h3
                have d1 : decide (1 ≤ x.size) = true := decide_eq_true (by omega)
                have d2 : decide (x.size ≤ 4) = true := decide_eq_true (by omega)
                refine .p rfl (allF_p hexq_f x hx) ?_
                cases ha : allI hexI x with
                | true =>
                  intro c hc
                  rw [IntWalk.i64_in _ (by omega)] at hc
                  subst hc
                  intro c hc
                  rw [IntWalk.i64_in _ (by omega)] at hc
                  obtain rfl : c = ((k + 1 : Nat) : Int) := by omega
                  exact ⟨g - 1, by omega, k + 1, n + 1, rfl, by omega, by omega, by omega, go 1 (by unfold grpD; simp [ha, d1, d2, hf]) (by decide)⟩
                | false =>
                  exact reti (bad (by unfold grpD; simp [ha, hf]))
              · have h3 := of_decide_eq_false h3
                have d2 : decide (x.size ≤ 4) = false := decide_eq_false (by omega)
                exact reti (bad (by unfold grpD; simp [d2, hf]))
            · have h2 := of_decide_eq_false h2
              have d1 : decide (1 ≤ x.size) = false := decide_eq_false (by omega)
              exact reti (bad (by unfold grpD; simp [d1, hf]))
        · have e1 : decide (k + 1 = l.length) = false := decide_eq_false (fun h => by
            have : ((k : Int) == c) = false := h1
            have := ne_of_beq_false this
            omega)
          rw [e1] at go bad
          refine cnd_split (fun h2 => ?_) (fun h2 => ?_)
          · have h2 := of_decide_eq_true h2
            refine cnd_split (fun h3 => ?_) (fun h3 => ?_)
            · have h3 := of_decide_eq_true h3
              have d1 : decide (1 ≤ x.size) = true := decide_eq_true (by omega)
              have d2 : decide (x.size ≤ 4) = true := decide_eq_true (by omega)
              refine .p rfl (allF_p hexq_f x hx) ?_
              cases ha : allI hexI x with
              | true =>
                intro c hc
                rw [IntWalk.i64_in _ (by omega)] at hc
                subst hc
                intro c hc
                rw [IntWalk.i64_in _ (by omega)] at hc
                obtain rfl : c = ((k + 1 : Nat) : Int) := by omega
                exact ⟨g - 1, by omega, k + 1, n + 1, rfl, by omega, by omega, by omega, go 1 (by unfold grpD; simp [ha, d1, d2, h2]) (by decide)⟩
              | false =>
                exact reti (bad (by unfold grpD; simp [ha, h2]))
            · have h3 := of_decide_eq_false h3
              have d2 : decide (x.size ≤ 4) = false := decide_eq_false (by omega)
              exact reti (bad (by unfold grpD; simp [d2, h2]))
          · have h2 := of_decide_eq_false h2
            have d1 : decide (1 ≤ x.size) = false := decide_eq_false (by omega)
            exact reti (bad (by unfold grpD; simp [d1, h2]))
    · have hd := of_decide_eq_false hd
      rw [el] at hd
      rw [List.drop_of_length_le (by omega)] at hw
      exact reti hw

theorem hsPrefix_p (s p : ByteArray) : APure Tryz.prog 217 [.s s, .s p] (.b (Lib.hasPrefix s.data.toList p.data.toList)) [] := by
  refine APure.of_lits #[.string s, .string p] (.inl rfl) rfl Tryz.call217 fun w _ => (Tryz.strings_HasPrefix s p w).mono ?_
  rintro e w' ⟨rfl, rfl⟩
  exact ⟨rfl, .refl _ _⟩
theorem lastByte_p (s : ByteArray) (c : Int) (hs : s.size ≤ 4000000000) : APure Tryz.prog 108 [.s s, .int .u8 c] (.i (Lib.lastIndexByte s c)) [] := by
  refine APure.of_lits #[.string s, .int .u8 c] (.inl rfl) rfl Tryz.call108 fun w _ => (Tryz.strings_LastIndexByte s c (by omega) w).mono ?_
  rintro e w' ⟨rfl, rfl⟩
  exact ⟨rfl, .refl _ _⟩
/-- the place behind the last of a byte -/
def lastN (s : ByteArray) (c : Int) : Nat := (Lib.lastIndexByte s c + 1).toNat
theorem lastN_eq (s : ByteArray) (c : Int) : Lib.lastIndexByte s c = (lastN s c : Int) - 1 ∧ lastN s c ≤ s.size := by
  unfold lastN
  rcases Lib.lastIndexByte_spec s c with ⟨h, _⟩ | ⟨i, h1, h2, _⟩
  · rw [h]; simp
  · rw [h2]; omega
def cutA (s sep : ByteArray) : ByteArray × ByteArray × Bool := (⟨(Lib.cut s.data.toList sep.data.toList).1.toArray⟩, ⟨(Lib.cut s.data.toList sep.data.toList).2.1.toArray⟩, (Lib.cut s.data.toList sep.data.toList).2.2)
theorem cutA_p (s sep : ByteArray) (hs : s.size ≤ 4000000000) : APure Tryz.prog 114 [.s s, .s sep] (.tup [.s (cutA s sep).1, .s (cutA s sep).2.1, .b (cutA s sep).2.2]) [] := cutG_p s sep hs
theorem cutA_le (s sep : ByteArray) : (cutA s sep).1.size ≤ s.size ∧ (cutA s sep).2.1.size ≤ s.size := by
  have h : s.data.toList.length = s.size := blen s
  have e : ∀ l : List UInt8, (⟨l.toArray⟩ : ByteArray).size = l.length := fun l => by simp [ByteArray.size]
  unfold cutA Lib.cut
  split
  · have e1 := e (s.data.toList.take (Lib.index s.data.toList sep.data.toList).toNat)
    have e2 := e (s.data.toList.drop ((Lib.index s.data.toList sep.data.toList).toNat + sep.data.toList.length))
    rw [List.length_take] at e1
    rw [List.length_drop] at e2
    dsimp only
    omega
  · have e1 := e s.data.toList
    have e2 := e []
    rw [List.length_nil] at e2
    dsimp only
    omega
def ccS : ByteArray := ⟨#[58, 58]⟩
def sixB (s : ByteArray) : Bool := match (cutA s ccS).2.2 with
  | false => grpB s true == 8
  | true => decide (0 ≤ grpB (cutA s ccS).1 false) && (decide (0 ≤ grpB (cutA s ccS).2.1 true) && decide (grpB (cutA s ccS).1 false + grpB (cutA s ccS).2.1 true ≤ 7))
theorem six_p (s : ByteArray) (hs : s.size ≤ 4000000000) : APure Tryz.prog 205 [.s s] (.b (sixB s)) [] := by
  have h := cutA_p s ccS hs
  have hl := cutA_le s ccS
  unfold sixB
  generalize cutA s ccS = q at h hl ⊢
  obtain ⟨a, b, c⟩ := q
  dsimp only at h hl ⊢
  have ha := grpB_le false a
  have hb := grpB_le true b
  refine APure.of rfl (ACalls.of_vc T_ok mixed Tryz.func205 rfl Tryz.call205 ?_)
  refine .p rfl h ?_
  cases c with
  | false =>
    refine .p rfl (grp_p s hs true) ?_
    exact retb rfl
  | true =>
    refine .p rfl (grp_p a (by omega) false) ?_
    refine .p rfl (grp_p b (by omega) true) ?_
    generalize grpB a false = x at ha ⊢
    generalize grpB b true = y at hb ⊢
    refine cnd_split (fun h1 => ?_) (fun h1 => ?_)
    · refine cnd_split (fun h2 => ?_) (fun h2 => ?_)
      · intro c hc
        have h1 := of_decide_eq_true h1
        have h2 := of_decide_eq_true h2
        rw [IntWalk.i64_in _ (by omega)] at hc
        subst hc
        exact retb (by simp [h1, h2])
      · exact retb (by rw [show decide (0 ≤ y) = false from h2]; simp)
    · exact retb (by rw [show decide (0 ≤ x) = false from h1]; rfl)
/-- what a host without a port is: its kind (0: it is none), its name -/
def hostO (s : ByteArray) : Int × ByteArray :=
  if (decide (2 < s.size) && (atB s 0 91 && (atB s (s.size - 1) 93 && sixB (s.extract 1 (s.size - 1))))) = true then (3, s.extract 1 (s.size - 1))
  else if fourB s = true then (2, s) else if nameB s = true then (1, s) else (0, s)
def hstA (h : Int × ByteArray × Int) : AV := .agg [.i h.1, .s h.2.1, .i h.2.2]
set_option maxHeartbeats 1000000 in
theorem hostO_p (s : ByteArray) (hs : s.size ≤ 4000000000) : APure Tryz.prog 152 [.s s] (.tup [hstA ((hostO s).1, (hostO s).2, -1), .b (!((hostO s).1 == 0))]) [] := by
  have hZ : hostO s = if (decide (2 < s.size) && (atB s 0 91 && (atB s (s.size - 1) 93 && sixB (s.extract 1 (s.size - 1))))) = true then (3, s.extract 1 (s.size - 1)) else if fourB s = true then (2, s) else if nameB s = true then (1, s) else (0, s) := rfl
  generalize hostO s = Z at hZ ⊢
  have rest : (decide (2 < s.size) && (atB s 0 91 && (atB s (s.size - 1) 93 && sixB (s.extract 1 (s.size - 1))))) = false → Z = if fourB s = true then (2, s) else if nameB s = true then (1, s) else (0, s) := fun h => by rw [hZ, h, if_neg (by decide)]
  refine APure.of rfl (ACalls.of_vc T_ok mixed Tryz.func152 rfl Tryz.call152 ?_)
  refine ⟨_, rfl, ?_⟩
  refine cnd_split (fun h1 => ?_) (fun h1 => ?_)
  · have h1 := of_decide_eq_true h1
    have h0 : 0 < s.size := by omega
    have hq : s.size - 1 < s.size := by omega
    have d1 : decide (2 < s.size) = true := decide_eq_true (by omega)
    refine ⟨0, h0, rfl, ?_⟩
    rw [d1, atB_lt h0, atB_lt hq] at hZ rest
    refine cnd_split (fun h2 => ?_) (fun h2 => ?_)
    · rw [show ((s[0].toNat : Int) == 91) = true from h2] at hZ rest
      intro c hc
      rw [IntWalk.i64_in _ (by omega)] at hc
      obtain rfl : c = ((s.size - 1 : Nat) : Int) := by omega
      refine ⟨s.size - 1, hq, rfl, ?_⟩
      refine cnd_split (fun h3 => ?_) (fun h3 => ?_)
      · rw [show ((s[s.size - 1].toNat : Int) == 93) = true from h3] at hZ rest
        intro c hc
        rw [IntWalk.i64_in _ (by omega)] at hc
        obtain rfl : c = ((s.size - 1 : Nat) : Int) := by omega
        refine ⟨s.size - 1, rfl, 1, rfl, by omega, by omega, ?_⟩
        have hxs : (s.extract 1 (s.size - 1)).size ≤ 4000000000 := by rw [ByteArray.size_extract]; omega
        generalize hx : s.extract 1 (s.size - 1) = x at hxs hZ rest ⊢
        refine .p rfl (six_p x hxs) ?_
        cases h6 : sixB x with
        | true =>
          rw [h6, if_pos (show (true && (true && (true && true))) = true from rfl)] at hZ
          subst hZ
          refine .e (by kernel_rfl) ?_
          intro c hc
          rw [IntWalk.i64_in _ (by omega)] at hc
          obtain rfl : c = ((s.size - 1 : Nat) : Int) := by omega
          refine ⟨s.size - 1, rfl, 1, rfl, by omega, by omega, ?_⟩
          subst hx
          refine ⟨_, rfl, ?_⟩
          refine ⟨_, rfl, ?_⟩
          refine .n (.one 0 (.one 1 (.two 2 4 (.one 3 (.one 4 (.one 5 .done))) (.one 2 (.one 3 (.one 5 .done)))))) (by kernel_rfl) ?_
          refine ⟨_, rfl, ?_⟩
          refine ⟨?_, ?_⟩
          · refine ⟨_, rfl, ?_⟩
            refine ⟨_, rfl, ?_⟩
            exact ⟨_, rfl, rfl⟩
          · refine ⟨_, rfl, ?_⟩
            refine ⟨_, rfl, ?_⟩
            exact ⟨_, rfl, rfl⟩
        | false =>
          rw [h6] at rest
          have hZ := rest rfl
          refine .p rfl (four_p s hs) ?_
          cases h4 : fourB s with
          | true =>
            rw [h4, if_pos rfl] at hZ
            subst hZ
            refine ⟨_, rfl, ?_⟩
            refine .n (.one 0 (.one 1 (.two 2 4 (.one 3 (.one 4 (.one 5 .done))) (.one 2 (.one 3 (.one 5 .done)))))) (by kernel_rfl) ?_
            refine ⟨_, rfl, ?_⟩
            refine ⟨?_, ?_⟩
            · refine ⟨_, rfl, ?_⟩
              refine ⟨_, rfl, ?_⟩
              exact ⟨_, rfl, rfl⟩
            · refine ⟨_, rfl, ?_⟩
              refine ⟨_, rfl, ?_⟩
              exact ⟨_, rfl, rfl⟩
          | false =>
            rw [h4, if_neg (by decide)] at hZ
            refine .p rfl (name_p s hs) ?_
            cases h5 : nameB s with
            | true =>
              rw [h5, if_pos rfl] at hZ
              subst hZ
              refine ⟨_, rfl, ?_⟩
              refine .n (.one 0 (.one 1 (.two 2 4 (.one 3 (.one 4 (.one 5 .done))) (.one 2 (.one 3 (.one 5 .done)))))) (by kernel_rfl) ?_
              refine ⟨_, rfl, ?_⟩
              refine ⟨?_, ?_⟩
              · refine ⟨_, rfl, ?_⟩
                refine ⟨_, rfl, ?_⟩
                exact ⟨_, rfl, rfl⟩
              · refine ⟨_, rfl, ?_⟩
                refine ⟨_, rfl, ?_⟩
                exact ⟨_, rfl, rfl⟩
            | false =>
              rw [h5, if_neg (by decide)] at hZ
              subst hZ
              refine .n (.one 0 (.one 1 (.two 2 4 (.one 3 (.one 4 (.one 5 .done))) (.one 2 (.one 3 (.one 5 .done)))))) (by kernel_rfl) ?_
              refine ⟨_, rfl, ?_⟩
              refine ⟨?_, ?_⟩
              · refine ⟨_, rfl, ?_⟩
                refine ⟨_, rfl, ?_⟩
                exact ⟨_, rfl, rfl⟩
              · refine ⟨_, rfl, ?_⟩
                refine ⟨_, rfl, ?_⟩
                exact ⟨_, rfl, rfl⟩
      · rw [show ((s[s.size - 1].toNat : Int) == 93) = false from h3] at rest
        have hZ := rest rfl
        refine .p rfl (four_p s hs) ?_
        cases h4 : fourB s with
        | true =>
          rw [h4, if_pos rfl] at hZ
          subst hZ
          refine ⟨_, rfl, ?_⟩
          refine .n (.one 0 (.one 1 (.two 2 4 (.one 3 (.one 4 (.one 5 .done))) (.one 2 (.one 3 (.one 5 .done)))))) (by kernel_rfl) ?_
          refine ⟨_, rfl, ?_⟩
          refine ⟨?_, ?_⟩
          · refine ⟨_, rfl, ?_⟩
            refine ⟨_, rfl, ?_⟩
            exact ⟨_, rfl, rfl⟩
          · refine ⟨_, rfl, ?_⟩
            refine ⟨_, rfl, ?_⟩
            exact ⟨_, rfl, rfl⟩
        | false =>
          rw [h4, if_neg (by decide)] at hZ
          refine .p rfl (name_p s hs) ?_
          cases h5 : nameB s with
          | true =>
            rw [h5, if_pos rfl] at hZ
            subst hZ
            refine ⟨_, rfl, ?_⟩
            refine .n (.one 0 (.one 1 (.two 2 4 (.one 3 (.one 4 (.one 5 .done))) (.one 2 (.one 3 (.one 5 .done)))))) (by kernel_rfl) ?_
            refine ⟨_, rfl, ?_⟩
            refine ⟨?_, ?_⟩
            · refine ⟨_, rfl, ?_⟩
              refine ⟨_, rfl, ?_⟩
              exact ⟨_, rfl, rfl⟩
            · refine ⟨_, rfl, ?_⟩
              refine ⟨_, rfl, ?_⟩
              exact ⟨_, rfl, rfl⟩
          | false =>
            rw [h5, if_neg (by decide)] at hZ
            subst hZ
            refine .n (.one 0 (.one 1 (.two 2 4 (.one 3 (.one 4 (.one 5 .done))) (.one 2 (.one 3 (.one 5 .done)))))) (by kernel_rfl) ?_
            refine ⟨_, rfl, ?_⟩
            refine ⟨?_, ?_⟩
            · refine ⟨_, rfl, ?_⟩
              refine ⟨_, rfl, ?_⟩
              exact ⟨_, rfl, rfl⟩
            · refine ⟨_, rfl, ?_⟩
              refine ⟨_, rfl, ?_⟩
              exact ⟨_, rfl, rfl⟩
    · rw [show ((s[0].toNat : Int) == 91) = false from h2] at rest
      have hZ := rest rfl
      refine .p rfl (four_p s hs) ?_
      cases h4 : fourB s with
      | true =>
        rw [h4, if_pos rfl] at hZ
        subst hZ
        refine ⟨_, rfl, ?_⟩
        refine .n (.one 0 (.one 1 (.two 2 4 (.one 3 (.one 4 (.one 5 .done))) (.one 2 (.one 3 (.one 5 .done)))))) (by kernel_rfl) ?_
        refine ⟨_, rfl, ?_⟩
        refine ⟨?_, ?_⟩
        · refine ⟨_, rfl, ?_⟩
          refine ⟨_, rfl, ?_⟩
          exact ⟨_, rfl, rfl⟩
        · refine ⟨_, rfl, ?_⟩
          refine ⟨_, rfl, ?_⟩
          exact ⟨_, rfl, rfl⟩
      | false =>
        rw [h4, if_neg (by decide)] at hZ
        refine .p rfl (name_p s hs) ?_
        cases h5 : nameB s with
        | true =>
          rw [h5, if_pos rfl] at hZ
          subst hZ
          refine ⟨_, rfl, ?_⟩
          refine .n (.one 0 (.one 1 (.two 2 4 (.one 3 (.one 4 (.one 5 .done))) (.one 2 (.one 3 (.one 5 .done)))))) (by kernel_rfl) ?_
          refine ⟨_, rfl, ?_⟩
          refine ⟨?_, ?_⟩
          · refine ⟨_, rfl, ?_⟩
            refine ⟨_, rfl, ?_⟩
            exact ⟨_, rfl, rfl⟩
          · refine ⟨_, rfl, ?_⟩
            refine ⟨_, rfl, ?_⟩
            exact ⟨_, rfl, rfl⟩
        | false =>
          rw [h5, if_neg (by decide)] at hZ
          subst hZ
          refine .n (.one 0 (.one 1 (.two 2 4 (.one 3 (.one 4 (.one 5 .done))) (.one 2 (.one 3 (.one 5 .done)))))) (by kernel_rfl) ?_
          refine ⟨_, rfl, ?_⟩
          refine ⟨?_, ?_⟩
          · refine ⟨_, rfl, ?_⟩
            refine ⟨_, rfl, ?_⟩
            exact ⟨_, rfl, rfl⟩
          · refine ⟨_, rfl, ?_⟩
            refine ⟨_, rfl, ?_⟩
            exact ⟨_, rfl, rfl⟩
  · have h1 := of_decide_eq_false h1
    rw [decide_eq_false (by omega : ¬ 2 < s.size)] at rest
    have hZ := rest rfl
    refine .p rfl (four_p s hs) ?_
    cases h4 : fourB s with
    | true =>
      rw [h4, if_pos rfl] at hZ
      subst hZ
      refine ⟨_, rfl, ?_⟩
      refine .n (.one 0 (.one 1 (.two 2 4 (.one 3 (.one 4 (.one 5 .done))) (.one 2 (.one 3 (.one 5 .done)))))) (by kernel_rfl) ?_
      refine ⟨_, rfl, ?_⟩
      refine ⟨?_, ?_⟩
      · refine ⟨_, rfl, ?_⟩
        refine ⟨_, rfl, ?_⟩
        exact ⟨_, rfl, rfl⟩
      · refine ⟨_, rfl, ?_⟩
        refine ⟨_, rfl, ?_⟩
        exact ⟨_, rfl, rfl⟩
    | false =>
      rw [h4, if_neg (by decide)] at hZ
      refine .p rfl (name_p s hs) ?_
      cases h5 : nameB s with
      | true =>
        rw [h5, if_pos rfl] at hZ
        subst hZ
        refine ⟨_, rfl, ?_⟩
        refine .n (.one 0 (.one 1 (.two 2 4 (.one 3 (.one 4 (.one 5 .done))) (.one 2 (.one 3 (.one 5 .done)))))) (by kernel_rfl) ?_
        refine ⟨_, rfl, ?_⟩
        refine ⟨?_, ?_⟩
        · refine ⟨_, rfl, ?_⟩
          refine ⟨_, rfl, ?_⟩
          exact ⟨_, rfl, rfl⟩
        · refine ⟨_, rfl, ?_⟩
          refine ⟨_, rfl, ?_⟩
          exact ⟨_, rfl, rfl⟩
      | false =>
        rw [h5, if_neg (by decide)] at hZ
        subst hZ
        refine .n (.one 0 (.one 1 (.two 2 4 (.one 3 (.one 4 (.one 5 .done))) (.one 2 (.one 3 (.one 5 .done)))))) (by kernel_rfl) ?_
        refine ⟨_, rfl, ?_⟩
        refine ⟨?_, ?_⟩
        · refine ⟨_, rfl, ?_⟩
          refine ⟨_, rfl, ?_⟩
          exact ⟨_, rfl, rfl⟩
        · refine ⟨_, rfl, ?_⟩
          refine ⟨_, rfl, ?_⟩
          exact ⟨_, rfl, rfl⟩
end Go.Proofs.YthnmbfiandpedaaGreatDoor
/- The library's search for a slash or a question mark in any text. No statement of its own. -/
set_option linter.unusedSimpArgs false
set_option linter.unusedVariables false
set_option maxRecDepth 100000
namespace Go.Proofs.YthnmbfiandpedaaGreatDoor
open Go.RowKit
theorem sl_contains (x : UInt8) : ([47, 63] : List UInt8).contains x = (x == 47 || x == 63) := by rw [Bool.eq_iff_iff]; simp
set_option maxHeartbeats 1000000 in
theorem indexRuneSl_high (r : Int) (h0 : 128 ≤ r) (h1 : r ≤ 2147483647) (w : World) :
    Calls Tryz.prog 157 #[.string ⟨#[47, 63]⟩, .int .i32 r] w fun e w' => e = .returned (.int .i64 (-1)) ∧ Chg w w' (fun _ => False) := by
  cases he : (r == 65533)
  · cases hv : Lib.validRune r
    · have hV := Tryz.utf8_ValidRune r w
      rw [hv] at hV
      go_enter Tryz.func157, Tryz.ntmps157
      go_wp2_with (go_at_call 214; refine hV.mono ?_; rintro e w' ⟨rfl, hw⟩; rw [hw])
      go_ret
      exact ⟨rfl, Chg.refl _ _⟩
    · have hV := Tryz.utf8_ValidRune r w
      rw [hv] at hV
      have q1 := (encode_high r h0).1
      have q2 := (encode_high r h0).2.1
      go_enter Tryz.func157, Tryz.ntmps157
      go_wp2_with (go_at_call 214; refine hV.mono ?_; rintro e w' ⟨rfl, hw⟩; rw [hw])
      go_step3
      go_wp2_with fail
      have hq0 := encode_high r h0
      clear hV
      generalize Utf8.encode r = q at *
      obtain ⟨_, _, q3⟩ := hq0
      by_cases hq : q.size = 2
      · have q4 := q3 hq
        have q5 : (((((⟨#[47, 63]⟩ : ByteArray)[1]'(by decide)).toNat : Int)) != ((q[1]'(by omega)).toNat : Int)) = true := by
          rw [bne_iff_ne]
          show (63 : Int) ≠ _
          omega
        clear q3
        go_loopg [9] 1 (fun g s9 wx => w = wx ∧ s9 = .int .i64 ((q.size : Int) - 1))
        case atStart => exact ⟨rfl, rfl⟩
        case round =>
          obtain ⟨rfl, rfl⟩ := hrel
          go_wp2_with fail
          go_step3
          go_wp2_with fail
          go_quiet (fail)
          go_wp2_with fail
          go_quiet ((go_at_call 201; exact quiet_add_left (sIndexByte_any _ _ _)))
          go_wp2_with fail
          · rw [Exit.noGoto_ret]
            go_wp2_with fail
            rw [Exit.noGoto_ret]
            go_ret
            exact ⟨rfl, by repeat (first | exact Chg.refl _ _ | assumption | refine Chg.drewN ?_ _ | refine Chg.drew ?_ | refine Chg.alloc ?_ _)⟩
      · go_loopg [9] 1 (fun g s9 wx => w = wx ∧ s9 = .int .i64 ((q.size : Int) - 1))
        case atStart => exact ⟨rfl, rfl⟩
        case round =>
          obtain ⟨rfl, rfl⟩ := hrel
          clear q3
          have q5 : 3 ≤ q.size := by omega
          clear hq
          go_wp2_with fail
          rw [Exit.noGoto_ret]
          go_ret
          exact ⟨rfl, Chg.refl _ _⟩
  · go_enter Tryz.func157, Tryz.ntmps157
    go_wp2_with fail
    go_loopg [176] 2 (fun g _ wx => ∃ i : Nat, i + g = 2 ∧ wx = w.iter ⟨#[47, 63]⟩ i)
    case atStart => exact ⟨0, rfl, rfl⟩
    case round =>
      obtain ⟨i, hig, rfl⟩ := hrel
      rcases (show i = 0 ∨ i = 1 ∨ i = 2 by omega) with rfl | rfl | rfl
      · have hnx := fun ty => run_next_ascii (P := Tryz.prog) w ⟨#[47, 63]⟩ 0 ty (by decide) (by decide)
        go_wp2_with fail
        go_roundg 1
        case measure => omega
        case rel => exact ⟨1, rfl, rfl⟩
      · have hnx := fun ty => run_next_ascii (P := Tryz.prog) w ⟨#[47, 63]⟩ 1 ty (by decide) (by decide)
        go_wp2_with fail
        go_roundg 0
        case measure => omega
        case rel => exact ⟨2, rfl, rfl⟩
      · have hnx := run_next_end (P := Tryz.prog) w ⟨#[47, 63]⟩ 2
        go_wp2_with fail
        go_ret
        exact ⟨rfl, (Chg.refl _ _).alloc _⟩


set_option maxHeartbeats 2000000 in
theorem indexAnySl_any (s : ByteArray) (hs : s.size ≤ 4000000000) (w : World) :
    Calls Tryz.prog 106 #[.string s, .string ⟨#[47, 63]⟩] w fun e w' => e = .returned (.int .i64 (Lib.indexAny s.data.toList [47, 63])) ∧ Chg w w' (fun _ => False) := by
  by_cases h8 : 8 < s.size
  · exact (Tryz.strings_IndexAny_long (zero_of_info info_set).1 s ⟨#[47, 63]⟩ w (by decide) h8 (by omega) (by decide) (fun j b h => by
      rcases j with _ | _ | j
      · simp at h; subst h; decide
      · simp at h; subst h; decide
      · simp at h)).mono fun e w' ⟨he, hb⟩ => ⟨he, by subst hb; exact ((Chg.refl _ _).alloc _).alloc _⟩
  · have h8z : decide ((8 : Int) < (s.size : Int)) = false := decide_eq_false (by omega)
    have hS := Tryz.strings_shouldUseASCIISet (s.size : Int) w
    rw [h8z] at hS
    go_enter Tryz.func106, Tryz.ntmps106
    go_wp2_with (go_at_call 158; refine hS.mono ?_; rintro e w' ⟨rfl, hw⟩; rw [hw])
    go_loopg [9, 10] s.size (fun g _ _ wx => ∃ i : Nat, i + g = s.size ∧ wx.heap[w.heap.size]? = some (.stringIter s i) ∧ Chg w wx (fun _ => False) ∧ Lib.NoAny s.data.toList [47, 63] i)
    case atStart => exact ⟨0, by omega, World.iter_heap w s 0, (Chg.refl _ _).alloc _, Lib.NoAny.zero _ _⟩
    case round =>
      obtain ⟨i, hig, hit, hc, hno⟩ := hrel
      have HN := Lib.hid hno
      clear hno
      by_cases hi : i < s.size
      · by_cases ha : (s[i]'hi).toNat < 128
        · have hnx := fun ty => Lib.run_next_ascii_at (P := Tryz.prog) wr w.heap.size s i ty hit hi ha
          have Hx : Hid (s.data.toList[i]? = some (s[i]'hi)) := Lib.data_getElem? s i hi
          have hcon := Lib.contains_iff_indexByte [47, 63] (s[i]'hi)
          have hback : (((s[i]'hi).toNat : Int)).toNat.toUInt8 = s[i]'hi := by simp
          have hIR := Tryz.strings_IndexRune_ascii ⟨#[47, 63]⟩ ((s[i]'hi).toNat : Int) (wr.iterAt w.heap.size s (i + 1)) (by omega) (by omega)
          rw [hback] at hIR
          clear hback
          generalize s[i]'hi = x at *
          change Calls _ _ _ _ (fun e w' => e = .returned (.int .i64 (Lib.indexByte [47, 63] x)) ∧ _) at hIR
          cases hin : ([47, 63] : List UInt8).contains x
          · rw [hin] at hcon
            have hlt : ¬ ((0 : Int) ≤ Lib.indexByte [47, 63] x) := of_decide_eq_false hcon.symm
            clear hcon
            generalize Lib.indexByte [47, 63] x = q at *
            have HI := Lib.hid hin
            clear hin
            go_wp2_with (go_at_call 157; refine hIR.mono ?_; rintro e w' ⟨rfl, hw⟩; rw [hw])
            go_roundg (gk - 1)
            case measure => omega
            case rel => exact ⟨i + 1, by omega, Lib.iterAt_heap wr _ s i _ hit, hc.next (Chg.iterAt wr _ s _) (fun j hj e => by omega), HN.out.succ Hx.out HI.out⟩
          · rw [hin] at hcon
            have hge : (0 : Int) ≤ Lib.indexByte [47, 63] x := of_decide_eq_true hcon.symm
            clear hcon
            generalize Lib.indexByte [47, 63] x = q at *
            have HI := Lib.hid hin
            clear hin
            go_wp2_with (go_at_call 157; refine hIR.mono ?_; rintro e w' ⟨rfl, hw⟩; rw [hw])
            go_ret
            exact ⟨by rw [Lib.indexAny_hit HN.out Hx.out HI.out]; rfl, hc.next (Chg.iterAt wr _ s _) (fun j hj e => by omega)⟩
        · have hnx := fun ty => Lib.run_next_any_at (P := Tryz.prog) wr w.heap.size s i ty hit hi
          obtain ⟨hr1, hr2⟩ := decode_high s i hi (by omega)
          have hr3 := decode_le s i
          have hby := decode_bytes s i hi (by omega)
          generalize (Utf8.decode s i).1 = r at *
          generalize (Utf8.decode s i).2 = k at *
          have hIR := fun W => indexRuneSl_high (r : Int) (by omega) (by omega) W
          have HB := Lib.hid hby
          have hle : i + k ≤ s.size := by
            obtain ⟨h, _⟩ := hby (i + k - 1) (by omega) (by omega)
            omega
          clear hby ha
          go_wp2_with fail
          refine (hIR _).mono ?_; rintro e w2 ⟨rfl, hc2⟩
          have hw2 : w2.heap[w.heap.size]? = some (.stringIter s (i + k)) := (hc2.block _ (by simp [World.iterAt]; exact (Array.getElem?_eq_some_iff.1 hit).1) (fun h => h)).trans (Lib.iterAt_heap wr _ s i _ hit)
          have hcc := (hc.next (Chg.iterAt wr w.heap.size s (i + k)) (fun j hj e => by omega)).trans hc2
          go_wp2_with fail
          go_roundg (gk - k)
          case measure => omega
          case rel =>
            refine ⟨i + k, by omega, hw2, hcc, fun j b hj hb => ?_⟩
            by_cases hji : j < i
            · exact HN.out j b hji hb
            · obtain ⟨hjs, h128⟩ := HB.out j (by omega) hj
              rw [Lib.data_getElem? s j hjs] at hb
              obtain rfl := Option.some.inj hb
              rw [sl_contains]
              generalize s[j] = x at *
              rw [Bool.or_eq_false_iff]
              exact ⟨by rw [beq_eq_false_iff_ne]; intro e; subst e; exact absurd h128 (by decide), by rw [beq_eq_false_iff_ne]; intro e; subst e; exact absurd h128 (by decide)⟩
      · have hnx := fun ty => Lib.run_next_end_at (P := Tryz.prog) wr w.heap.size s i ty hit (by omega)
        obtain rfl : i = s.size := by omega
        go_wp2_with fail
        go_ret
        exact ⟨by rw [Lib.indexAny_none (by rw [blen]; exact HN.out)]; rfl, hc⟩

theorem indexAnySl_p (s : ByteArray) (hs : s.size ≤ 4000000000) : APure Tryz.prog 106 [.s s, .s ⟨#[47, 63]⟩] (.i (Lib.indexAny s.data.toList [47, 63])) [] :=
  APure.of_lits #[.string s, .string ⟨#[47, 63]⟩] (.inl rfl) rfl Tryz.call106 fun w _ => (indexAnySl_any s hs w).mono fun e w1 ⟨he, hc⟩ => ⟨he, hc.below (Nat.le_refl _) (fun _ _ h => h)⟩
theorem indexAny_lt (cs : List UInt8) : ∀ l : List UInt8, Lib.indexAny l cs < l.length ∨ Lib.indexAny l cs = -1
  | [] => .inr rfl
  | b :: l => by
    unfold Lib.indexAny
    split
    · exact .inl (by simp only [List.length_cons]; omega)
    split
    · exact .inr rfl
    · rename_i h
      rcases indexAny_lt cs l with h2 | h2
      · exact .inl (by simp only [List.length_cons]; omega)
      · rw [h2] at h; exact absurd rfl h
end Go.Proofs.YthnmbfiandpedaaGreatDoor
/- Hosts with ports, paths and targets of requests: in plain words, and walked. No statement of its own. -/
set_option linter.unusedSimpArgs false
set_option linter.unusedVariables false
set_option maxRecDepth 100000
namespace Go.Proofs.YthnmbfiandpedaaGreatDoor
open Go.RowKit
def hostP (s : ByteArray) : (Int × ByteArray × Int) × Int :=
  if ¬ (hostO s).1 = 0 then (((hostO s).1, (hostO s).2, -1), 0)
  else if lastN s 58 = 0 then ((0, ⟨#[]⟩, 0), 27)
  else if (hostO (s.extract 0 (lastN s 58 - 1))).1 = 0 ∨ smallB (s.extract (lastN s 58) s.size) 65535 = false then ((0, ⟨#[]⟩, 0), 27)
  else (((hostO (s.extract 0 (lastN s 58 - 1))).1, (hostO (s.extract 0 (lastN s 58 - 1))).2, (readG 10 (s.extract (lastN s 58) s.size) 65535).1), 0)
set_option maxHeartbeats 1000000 in
theorem hostP_p (s : ByteArray) (hs : s.size ≤ 4000000000) : APure Tryz.prog 101 [.s s] (.tup [hstA (hostP s).1, .i (hostP s).2]) [] := by
  have hmx : maxLen = 9223372036854775807 := rfl
  have h1 := hostO_p s hs
  have hl := lastByte_p s 58 hs
  have hle := lastN_eq s 58
  rw [hle.1] at hl
  have hZ : hostP s = if ¬ (hostO s).1 = 0 then (((hostO s).1, (hostO s).2, -1), 0) else if lastN s 58 = 0 then ((0, ⟨#[]⟩, 0), 27)
    else if (hostO (s.extract 0 (lastN s 58 - 1))).1 = 0 ∨ smallB (s.extract (lastN s 58) s.size) 65535 = false then ((0, ⟨#[]⟩, 0), 27)
    else (((hostO (s.extract 0 (lastN s 58 - 1))).1, (hostO (s.extract 0 (lastN s 58 - 1))).2, (readG 10 (s.extract (lastN s 58) s.size) 65535).1), 0) := rfl
  generalize hostP s = Z at hZ ⊢
  generalize hostO s = a at h1 hZ
  obtain ⟨k, nm⟩ := a
  dsimp only at h1 hZ
  have hle2 := hle.2
  clear hle
  have e1 : (s.extract 0 (lastN s 58 - 1)).size ≤ 4000000000 := by rw [ByteArray.size_extract]; omega
  have e2 : (s.extract (lastN s 58) s.size).size ≤ 4000000000 := by rw [ByteArray.size_extract]; omega
  refine APure.of rfl (ACalls.of_vc T_ok mixed Tryz.func101 rfl Tryz.call101 ?_)
  refine .p rfl h1 ?_
  refine ⟨_, rfl, ?_⟩
  refine cnd_split (fun hk => ?_) (fun hk => ?_)
  · have hk0 : ¬ k = 0 := fun e => by subst e; cases hk
    rw [if_pos hk0] at hZ
    subst hZ
    refine ⟨_, rfl, ?_⟩
    refine ⟨_, rfl, ?_⟩
    exact ⟨_, rfl, rfl⟩
  have hk0 : k = 0 := by
    simp only [Bool.not_eq_false'] at hk
    exact eq_of_beq hk
  rw [if_neg (fun h => h hk0)] at hZ
  refine .p rfl hl ?_
  refine cnd_split (fun h => ?_) (fun h => ?_)
  · have h := of_decide_eq_true h
    rw [if_pos (by omega)] at hZ
    subst hZ
    refine ⟨_, rfl, ?_⟩
    exact ⟨_, rfl, rfl⟩
  have h := of_decide_eq_false h
  rw [if_neg (by omega)] at hZ
  have h2 := hostO_p _ e1
  refine ⟨lastN s 58 - 1, by omega, Nat.zero_le _, by omega, ?_⟩
  generalize hostO (s.extract 0 (lastN s 58 - 1)) = b at h2 hZ
  obtain ⟨k2, nm2⟩ := b
  dsimp only at h2 hZ
  refine .p rfl h2 ?_
  refine ⟨_, rfl, ?_⟩
  refine cnd_split (fun h3 => ?_) (fun h3 => ?_)
  · rw [if_pos (.inl (by simpa using h3))] at hZ
    subst hZ
    refine ⟨_, rfl, ?_⟩
    exact ⟨_, rfl, rfl⟩
  have k20 : ¬ k2 = 0 := by simpa using h3
  intro c hc
  rw [IntWalk.i64_in _ (by omega)] at hc
  obtain rfl : c = ((lastN s 58 : Nat) : Int) := by omega
  refine ⟨lastN s 58, rfl, by omega, Nat.le_refl _, ?_⟩
  generalize hx : s.extract (lastN s 58) s.size = x at e2 hZ ⊢
  refine .p rfl (small_p x (by omega) 65535 (by decide)) ?_
  cases h4 : smallB x 65535 with
  | false =>
    rw [if_pos (.inr h4)] at hZ
    subst hZ
    refine ⟨_, rfl, ?_⟩
    exact ⟨_, rfl, rfl⟩
  | true =>
    rw [if_neg (fun h => h.elim k20 (fun h => by rw [h4] at h; cases h))] at hZ
    subst hZ
    intro c hc
    rw [IntWalk.i64_in _ (by omega)] at hc
    obtain rfl : c = ((lastN s 58 : Nat) : Int) := by omega
    refine ⟨lastN s 58, rfl, by omega, Nat.le_refl _, ?_⟩
    rw [hx]
    refine .p rfl (nuDec_p x (by omega) 65535 (by decide)) ?_
    refine ⟨_, rfl, ?_⟩
    refine ⟨_, rfl, ?_⟩
    refine ⟨_, rfl, ?_⟩
    exact ⟨_, rfl, rfl⟩

/-- is a text, from a place on, a path's bytes and some more? -/
def pqW (s more : ByteArray) (i : Nat) : Bool :=
  if h : i < s.size then
    if (pthI (s[i].toNat : Int) || oneI more (s[i].toNat : Int)) = true then pqW s more (i + 1)
    else if (((s[i].toNat : Int) == 37) && (decide (i + 2 < s.size) && allI hexI (s.extract (i + 1) (i + 3)))) = true then pqW s more (i + 3)
    else false
  else true
termination_by s.size - i
theorem pqW_end {s more : ByteArray} {i : Nat} (h : ¬ i < s.size) : pqW s more i = true := by unfold pqW; rw [dif_neg h]
theorem pqW_1 {s more : ByteArray} {i : Nat} (h : i < s.size) (h1 : (pthI (s[i].toNat : Int) || oneI more (s[i].toNat : Int)) = true) : pqW s more i = pqW s more (i + 1) := by
  conv => lhs; unfold pqW
  rw [dif_pos h, if_pos h1]
theorem pqW_2 {s more : ByteArray} {i : Nat} (h : i < s.size) (h1 : (pthI (s[i].toNat : Int) || oneI more (s[i].toNat : Int)) = false) (h2 : (((s[i].toNat : Int) == 37) && (decide (i + 2 < s.size) && allI hexI (s.extract (i + 1) (i + 3)))) = true) : pqW s more i = pqW s more (i + 3) := by
  conv => lhs; unfold pqW
  rw [dif_pos h, if_neg (by rw [h1]; decide), if_pos h2]
theorem pqW_3 {s more : ByteArray} {i : Nat} (h : i < s.size) (h1 : (pthI (s[i].toNat : Int) || oneI more (s[i].toNat : Int)) = false) (h2 : (((s[i].toNat : Int) == 37) && (decide (i + 2 < s.size) && allI hexI (s.extract (i + 1) (i + 3)))) = false) : pqW s more i = false := by
  unfold pqW
  rw [dif_pos h, if_neg (by rw [h1]; decide), if_neg (by rw [h2]; decide)]
set_option maxHeartbeats 1000000 in
theorem pqof_p (s more : ByteArray) (hs : s.size ≤ 4000000000) : APure Tryz.prog 327 [.s s, .s more] (.b (pqW s more 0)) [] := by
  have hmx : maxLen = 9223372036854775807 := rfl
  refine APure.of rfl (ACalls.of_vc T_ok mixed Tryz.func327 rfl Tryz.call327 ?_)
  refine vc_loop [5] (fun g vals st' => ∃ i : Nat, vals = [.i i] ∧ i + g = s.size ∧ pqW s more i = pqW s more 0) s.size rfl ⟨0, rfl, by omega, rfl⟩ ?_
  rintro g vals st' ⟨i, rfl, hg, hw⟩
  refine cnd_split (fun hd => ?_) (fun hd => ?_)
  · have hd := of_decide_eq_true hd
    have hi : i < s.size := by omega
    have hn := s[i].toNat_lt
    refine ⟨i, hi, rfl, ?_⟩
    refine .p rfl (pth_p _ (by omega) (by omega)) ?_
    cases h1 : pthI (s[i].toNat : Int) with
    | true =>
      intro c hc
      rw [IntWalk.i64_in _ (by omega)] at hc
      obtain rfl : c = ((i + 1 : Nat) : Int) := by omega
      exact ⟨g - 1, by omega, i + 1, rfl, by omega, (pqW_1 hi (by rw [h1]; rfl)).symm.trans hw⟩
    | false =>
      refine ⟨i, hi, rfl, ?_⟩
      refine .p rfl (indexByte_p more _) ?_
      refine cnd_split (fun h2 => ?_) (fun h2 => ?_)
      · skip
        intro c hc
        rw [IntWalk.i64_in _ (by omega)] at hc
        obtain rfl : c = ((i + 1 : Nat) : Int) := by omega
        exact ⟨g - 1, by omega, i + 1, rfl, by omega, (pqW_1 hi (by rw [h1]; exact h2)).symm.trans hw⟩
      · have hno : (pthI (s[i].toNat : Int) || oneI more (s[i].toNat : Int)) = false := by rw [h1]; exact h2
        refine ⟨i, hi, rfl, ?_⟩
        refine cnd_split (fun h3 => ?_) (fun h3 => ?_)
        · skip
          intro c hc
          rw [IntWalk.i64_in _ (by omega)] at hc
          obtain rfl : c = ((i + 2 : Nat) : Int) := by omega
          refine cnd_split (fun h4 => ?_) (fun h4 => ?_)
          · have h4 := of_decide_eq_true h4
            have i2 : i + 2 < s.size := by omega
            intro c hc
            rw [IntWalk.i64_in _ (by omega)] at hc
            obtain rfl : c = ((i + 1 : Nat) : Int) := by omega
            intro c hc
            rw [IntWalk.i64_in _ (by omega)] at hc
            obtain rfl : c = ((i + 3 : Nat) : Int) := by omega
            refine ⟨i + 3, rfl, i + 1, rfl, by omega, by omega, ?_⟩
            have hx : (s.extract (i + 1) (i + 3)).size ≤ maxLen := by rw [ByteArray.size_extract]; omega
            refine .p rfl (allF_p hexq_f (s.extract (i + 1) (i + 3)) hx) ?_
            cases h5 : allI hexI (s.extract (i + 1) (i + 3)) with
            | true =>
              intro c hc
              rw [IntWalk.i64_in _ (by omega)] at hc
              obtain rfl : c = ((i + 2 : Nat) : Int) := by omega
              intro c hc
              rw [IntWalk.i64_in _ (by omega)] at hc
              obtain rfl : c = ((i + 3 : Nat) : Int) := by omega
              exact ⟨g - 3, by omega, i + 3, rfl, by omega, (pqW_2 hi hno (by rw [h5, decide_eq_true i2, show ((s[i].toNat : Int) == 37) = true from h3]; rfl)).symm.trans hw⟩
            | false =>
              exact retb (by rw [← hw, pqW_3 hi hno (by rw [h5]; simp)])
          · have h4 := of_decide_eq_false h4
            exact retb (by rw [← hw, pqW_3 hi hno (by rw [decide_eq_false (by omega : ¬ i + 2 < s.size)]; simp)])
        · exact retb (by rw [← hw, pqW_3 hi hno (by rw [show ((s[i].toNat : Int) == 37) = false from h3]; rfl)])
  · have hd := of_decide_eq_false hd
    exact retb (by rw [← hw, pqW_end (by omega)])
def slaS : ByteArray := ⟨#[47]⟩
def qsS : ByteArray := ⟨#[47, 63]⟩
def qmS : ByteArray := ⟨#[63]⟩
def pathB (s : ByteArray) : Bool := Lib.hasPrefix s.data.toList slaS.data.toList && pqW s slaS 0
theorem path_p (s : ByteArray) (hs : s.size ≤ 4000000000) : APure Tryz.prog 295 [.s s] (.b (pathB s)) [] := by
  refine APure.of rfl (ACalls.of_vc T_ok mixed Tryz.func295 rfl Tryz.call295 ?_)
  unfold pathB
  refine .p rfl (hsPrefix_p s slaS) ?_
  cases Lib.hasPrefix s.data.toList slaS.data.toList with
  | false => exact retb rfl
  | true =>
    refine .p rfl (pqof_p s slaS hs) ?_
    exact retb rfl
theorem query_p (s : ByteArray) (hs : s.size ≤ 4000000000) : APure Tryz.prog 296 [.s s] (.b (pqW s qsS 0)) [] := by
  refine APure.of rfl (ACalls.of_vc T_ok mixed Tryz.func296 rfl Tryz.call296 ?_)
  refine .p rfl (pqof_p s qsS hs) ?_
  exact retb rfl
/-- a path, and a query -/
def pcut (s : ByteArray) : ByteArray × ByteArray × Bool × Int := match pathB (cutA s qmS).1 && pqW (cutA s qmS).2.1 qsS 0 with
  | true => ((cutA s qmS).1, (cutA s qmS).2.1, (cutA s qmS).2.2, 0)
  | false => (⟨#[]⟩, ⟨#[]⟩, false, 2)
theorem pcut_p (s : ByteArray) (hs : s.size ≤ 4000000000) : APure Tryz.prog 261 [.s s] (.tup [.s (pcut s).1, .s (pcut s).2.1, .b (pcut s).2.2.1, .i (pcut s).2.2.2]) [] := by
  have h := cutA_p s qmS hs
  have hl := cutA_le s qmS
  unfold pcut
  generalize cutA s qmS = q at h hl ⊢
  obtain ⟨a, b, c⟩ := q
  dsimp only at h hl ⊢
  refine APure.of rfl (ACalls.of_vc T_ok mixed Tryz.func261 rfl Tryz.call261 ?_)
  refine .p rfl h ?_
  refine .p rfl (path_p a (by omega)) ?_
  cases pathB a with
  | false => exact rfl
  | true =>
    refine .p rfl (query_p b (by omega)) ?_
    cases pqW b qsS 0 with
    | false => exact rfl
    | true => exact rfl
end Go.Proofs.YthnmbfiandpedaaGreatDoor
/- What rules may ask for (stage.Known), walked. No statement of its own. -/
set_option linter.unusedSimpArgs false
set_option linter.unusedVariables false
set_option maxRecDepth 100000
namespace Go.Proofs.YthnmbfiandpedaaGreatDoor
open Go.RowKit
def cliS : ByteArray := ⟨#[99, 108, 105, 101, 110, 116]⟩
def hosS : ByteArray := ⟨#[104, 111, 115, 116]⟩
def metS : ByteArray := ⟨#[109, 101, 116, 104, 111, 100]⟩
def patS : ByteArray := ⟨#[112, 97, 116, 104]⟩
def schS : ByteArray := ⟨#[115, 99, 104, 101, 109, 101]⟩
def staS : ByteArray := ⟨#[115, 116, 97, 116, 117, 115]⟩
/-- what rules may ask for -/
def knownA (cl ho sc : ByteArray) (kind : Int) (method target : ByteArray) (code : Int) : List Fld :=
  if kind = 1 then [(cliS, cl), (hosS, ho), (metS, method), (patS, (pcut target).1), (schS, sc)]
  else if kind = 2 then [(cliS, cl), (hosS, ho), (schS, sc), (staS, nuT code)] else []
theorem kone_p (n v : ByteArray) : APure Tryz.prog 317 [.s n, .s v] (.agg [.s n, .s v]) [] := by
  refine APure.of rfl (ACalls.of_vc T_ok mixed Tryz.func317 rfl Tryz.call317 ?_)
  refine ⟨_, rfl, ?_⟩
  exact ⟨_, rfl, rfl⟩
set_option maxHeartbeats 2000000 in
theorem known_p (cl ho sc by' method target reason : ByteArray) (dm lm fs : List (List AV)) (kind code minor : Int) (ht : target.size ≤ 4000000000) (hc : 0 ≤ code ∧ code ≤ 9223372036854775807) :
    APure Tryz.prog 275 [.agg [.s cl, .s ho, .s sc, .s by', .sl .no 2 dm, .sl .no 2 lm], .agg [.i kind, .s method, .s target, .i code, .s reason, .i minor, .sl .no 2 fs]] (.sl .no 2 (fldL (knownA cl ho sc kind method target code))) [] := by
  have hZ : knownA cl ho sc kind method target code = if kind = 1 then [(cliS, cl), (hosS, ho), (metS, method), (patS, (pcut target).1), (schS, sc)]
    else if kind = 2 then [(cliS, cl), (hosS, ho), (schS, sc), (staS, nuT code)] else [] := rfl
  generalize knownA cl ho sc kind method target code = Z at hZ ⊢
  have hpc := pcut_p target ht
  generalize pcut target = pc at hpc hZ
  refine APure.ofW (by rfl) ?_
  refine ACalls.of_vc T_ok mixed Tryz.func275 rfl Tryz.call275 ?_
  refine draw_X (.one 0 (.one 1 (.one 2 (.one 4 (.one 5 (.one 6 (.one 8 (.one 9 (.one 10 (.one 3 (.one 7 (.one 11 (.tri 12 13 14
    (.two 13 14 (.one 14 (.one 15 (.one 16 (.one 17 .done)))) (.one 13 (.one 15 (.one 16 (.one 17 .done)))))
    (.two 12 14 (.one 14 (.one 15 (.one 16 (.one 17 .done)))) (.one 12 (.one 15 (.one 16 (.one 17 .done)))))
    (.two 12 13 (.one 13 (.one 15 (.one 16 (.one 17 .done)))) (.one 12 (.one 15 (.one 16 (.one 17 .done)))))))))))))))))) (by kernel_rfl) ?_
  refine ⟨_, rfl, ?_⟩
  refine ⟨_, rfl, ?_⟩
  refine ⟨_, rfl, ?_⟩
  refine .p rfl (kone_p _ _) ?_
  refine .p rfl (kone_p _ _) ?_
  refine .p rfl (kone_p _ _) ?_
  refine ⟨⟨?_, ?_⟩, ⟨?_, ?_⟩, ⟨?_, ?_⟩⟩
  all_goals
    refine ⟨_, rfl, ?_⟩
    refine ⟨_, rfl, ?_⟩
    refine ⟨_, rfl, ?_⟩
    refine ⟨_, rfl, ?_⟩
    refine cnd_split (fun hk => ?_) (fun hk => ?_)
    · rw [if_pos (eq_of_beq hk)] at hZ
      subst hZ
      refine ⟨_, rfl, ?_⟩
      refine .p rfl hpc ?_
      refine .x (by kernel_rfl) ?_
      refine ⟨_, rfl, ?_⟩
      refine ⟨_, rfl, ?_⟩
      refine ⟨_, rfl, ?_⟩
      refine .p rfl (kone_p _ _) ?_
      refine .p rfl (kone_p _ _) ?_
      refine ⟨_, rfl, ?_⟩
      exact .inl rfl
    rw [if_neg (ne_of_beq_false hk)] at hZ
    refine cnd_split (fun hk => ?_) (fun hk => ?_)
    · rw [if_pos (eq_of_beq hk)] at hZ
      subst hZ
      refine .x (by kernel_rfl) ?_
      refine ⟨_, rfl, ?_⟩
      refine ⟨_, rfl, ?_⟩
      refine ⟨_, rfl, ?_⟩
      refine ⟨_, rfl, ?_⟩
      refine .p rfl (nuText_p code (by omega) (by omega)) ?_
      refine .p rfl (kone_p _ _) ?_
      exact .inl rfl
    rw [if_neg (ne_of_beq_false hk)] at hZ
    subst hZ
    exact .inr (.inl ⟨2, rfl, rfl⟩)
end Go.Proofs.YthnmbfiandpedaaGreatDoor
/- How bodies end: plain words. No statement of its own. -/
set_option linter.unusedSimpArgs false
set_option linter.unusedVariables false
set_option maxRecDepth 100000
namespace Go.Proofs.YthnmbfiandpedaaGreatDoor
open Go.RowKit
def num1 (t : ByteArray) : Option Nat := if (readG 10 t mostB).2 = 0 then some (readG 10 t mostB).1.toNat else none
theorem num1_some {t : ByteArray} {n : Nat} (h : num1 t = some n) : (readG 10 t mostB).2 = 0 ∧ (readG 10 t mostB).1 = n ∧ n ≤ mostB := by
  unfold num1 at h
  split at h
  · rename_i h0
    cases h
    refine ⟨h0, ?_⟩
    unfold readG at h0 ⊢
    split
    · exact ⟨rfl, Nat.zero_le _⟩
    · split
      · rename_i h1 h2
        rw [if_neg h1, if_pos h2] at h0
        cases h0
      · exact ⟨rfl, by show valN 10 (digV t) ≤ mostB; omega⟩
  · cases h
theorem num1_none {t : ByteArray} (h : num1 t = none) : (readG 10 t mostB).2 ≠ 0 := by
  unfold num1 at h
  split at h
  · cases h
  · assumption
/-- the numbers of elements, and of those of further lists -/
def restN : List ByteArray → Option (List Nat) → Option (List Nat)
  | [], o => o
  | t :: r, o => match num1 t with
    | none => none
    | some n => (restN r o).map (n :: ·)
def numsW : List ByteArray → Option (List Nat)
  | [] => some []
  | x :: r => match splitW x with
    | none => none
    | some p => restN p (numsW r)
theorem numsW_at {l : List ByteArray} {k : Nat} (h : k < l.length) : numsW (l.drop k) = match splitW l[k] with
    | none => none
    | some p => restN p (numsW (l.drop (k + 1))) := by
  rw [List.drop_eq_getElem_cons h]; rfl
theorem restN_at {p : List ByteArray} {j : Nat} (h : j < p.length) (o : Option (List Nat)) : restN (p.drop j) o = match num1 p[j] with
    | none => none
    | some n => (restN (p.drop (j + 1)) o).map (n :: ·) := by
  rw [List.drop_eq_getElem_cons h]; rfl
abbrev Fr3 := Int × Int × Int
def errF (e : Int) : Fr3 := (0, 0, e)
/-- the one number that all are -/
def lenOf : Option (List Nat) → Fr3
  | none => errF 28
  | some [] => errF 28
  | some (n :: r) => if ∀ x ∈ r, x = n then (2, n, 0) else errF 28
theorem lenOf_bad {n m : Nat} {r : List Nat} (o : Option (List Nat)) (h : m ≠ n) : lenOf (o.map ((n :: r ++ [m]) ++ ·)) = errF 28 := by
  cases o with
  | none => rfl
  | some q =>
    show (if _ then _ else _) = _
    rw [if_neg]
    intro hc
    exact h (hc m (by simp))
def chkS : ByteArray := ⟨#[99, 104, 117, 110, 107, 101, 100]⟩
def teS : ByteArray := ⟨#[116, 114, 97, 110, 115, 102, 101, 114, 45, 101, 110, 99, 111, 100, 105, 110, 103]⟩
def clS : ByteArray := ⟨#[99, 111, 110, 116, 101, 110, 116, 45, 108, 101, 110, 103, 116, 104]⟩
/-- whether the one coding is chunked -/
def codW (l : List ByteArray) (minor : Int) : Fr3 := match tokW l with
  | some [x] => if minor ≠ 0 ∧ foldB x = foldB chkS then (3, 0, 0) else errF 30
  | _ => errF 30
def ofW (l : List Fld) (minor none : Int) : Fr3 :=
  if valsW teS l = [] then (if valsW clS l = [] then (none, 0, 0) else lenOf (numsW (valsW clS l)))
  else if valsW clS l = [] then codW (valsW teS l) minor else errF 29
abbrev frA (r : Fr3) : AV := .tup [.agg [.i r.1, .i r.2.1], .i r.2.2]
end Go.Proofs.YthnmbfiandpedaaGreatDoor
/- How bodies end: the program. No statement of its own. -/
set_option linter.unusedSimpArgs false
set_option linter.unusedVariables false
set_option maxRecDepth 100000
namespace Go.Proofs.YthnmbfiandpedaaGreatDoor
open Go.RowKit
theorem Gr.two (st : St) (x y z : List AV) : Gr st ⟨((st.heap ++ [x]) ++ [y]).set (st.heap ++ [x]).length z, st.tk⟩ := ⟨⟨[x, z], by rw [last_set]; simp⟩, Nat.le_refl _, fun _ _ => rfl⟩
theorem at_fst (h : List (List AV)) (x y : List AV) : ((h ++ [x]) ++ [y])[h.length]? = some x := by simp
theorem chk_fold : foldB ⟨#[99, 104, 117, 110, 107, 101, 100]⟩ = foldB chkS := rfl
theorem tokW_size {m : Nat} : ∀ (l o : List ByteArray), (∀ x ∈ l, x.size ≤ m) → tokW l = some o → ∀ y ∈ o, y.size ≤ m
  | [], o, _, h => by cases h; simp
  | x :: r, o, hl, h => by
    unfold tokW at h
    cases hs : splitW x with
    | none => rw [hs] at h; cases h
    | some p =>
      rw [hs] at h
      simp only at h
      split at h
      · cases hr : tokW r with
        | none => rw [hr] at h; cases h
        | some q =>
          rw [hr] at h
          cases h
          intro y hy
          rcases List.mem_append.1 hy with hy | hy
          · rcases (splW_bound _ 0 [] p rfl (Nat.zero_le _) hs).2 y hy with h1 | h1
            · simp at h1
            · exact Nat.le_trans h1 (hl x (.head _))
          · exact tokW_size r q (fun z hz => hl z (.tail _ hz)) hr y hy
      · cases h
set_option maxHeartbeats 1000000 in
theorem coding_a {st : St} {R : AV → St → Prop} {b : Nat} {mi : Int} (t e : Nat) (l : List ByteArray) (hb : b < st.heap.length) (hn : l.length ≤ 1000) (hl : ∀ x ∈ l, x.size ≤ 4000) (h : ∀ st', Gr st st' → R (frA (codW l mi)) st') :
    ACalls Tryz.prog 308 [.agg [.ptr b 0, .i mi], .sl (.own t e) 1 (strL l)] st R := by
  have hmx : maxLen = 9223372036854775807 := rfl
  have ht := tokens_p l hn hl
  unfold tokR at ht
  refine ACalls.of_vc T_ok mixed Tryz.func308 rfl Tryz.call308 ?_
  refine ⟨hb, ?_⟩
  cases hw : tokW l with
  | none =>
    rw [hw] at ht
    have hc : codW l mi = errF 30 := by unfold codW; rw [hw]
    rw [hc] at h
    refine .p rfl ht ?_
    refine ⟨_, last_at _ _, ?_⟩
    refine ⟨_, last_upd _ _ _, ?_⟩
    exact h _ (.two _ _ _ _)
  | some o =>
    rw [hw] at ht
    have el := strL_len o
    have hc : codW l mi = if mi ≠ 0 ∧ o.length = 1 ∧ (∀ x ∈ o, foldB x = foldB chkS) then (3, 0, 0) else errF 30 := by
      unfold codW
      rw [hw]
      match o with
      | [] => simp
      | [x] => simp
      | x :: y :: r => simp
    rw [hc] at h
    have bad : ¬ (mi ≠ 0 ∧ o.length = 1 ∧ ∀ x ∈ o, foldB x = foldB chkS) → ∀ st', Gr st st' → R (frA (errF 30)) st' := fun hn => by rw [if_neg hn] at h; exact h
    refine .p rfl ht ?_
    refine ⟨_, at_fst _ _ _, ?_⟩
    refine cnd_split (fun h1 => ?_) (fun h1 => ?_)
    · have h1 : mi = 0 := beq_iff_eq.1 h1
      refine ⟨_, last_at _ _, ?_⟩
      refine ⟨_, last_upd _ _ _, ?_⟩
      exact bad (fun hc => hc.1 h1) _ (.two _ _ _ _)
    · have h1 : ¬ mi = 0 := beq_eq_false_iff_ne.1 h1
      refine cnd_split (fun h2 => ?_) (fun h2 => ?_)
      · have h2 : ¬ ((strL o).length : Int) = 1 := by simpa using h2
        refine ⟨_, last_at _ _, ?_⟩
        refine ⟨_, last_upd _ _ _, ?_⟩
        exact bad (fun hc => h2 (by omega)) _ (.two _ _ _ _)
      · have h2 : ((strL o).length : Int) = 1 := by simpa using h2
        have ol : o.length = 1 := by omega
        obtain ⟨x, rfl⟩ := List.length_eq_one_iff.1 ol
        have hx : x.size ≤ maxLen := by
          have := tokW_size l [x] hl hw x (.head _)
          omega
        refine ⟨0, _, rfl, strL_at (l := [x]) (j := 0) Nat.zero_lt_one, ?_⟩
        refine .p rfl (sameO_p x _ hx (by decide)) ?_
        rw [chk_fold]
        refine cnd_split (fun h3 => ?_) (fun h3 => ?_)
        · rw [Bool.not_eq_true'] at h3
          have h3 := of_decide_eq_false h3
          refine ⟨_, last_at _ _, ?_⟩
          refine ⟨_, last_upd _ _ _, ?_⟩
          exact bad (fun hc => h3 (hc.2.2 x (.head _))) _ (.two _ _ _ _)
        · rw [Bool.not_eq_false'] at h3
          have h3 := of_decide_eq_true h3
          rw [if_pos ⟨h1, rfl, fun y hy => by rw [List.mem_singleton.1 hy]; exact h3⟩] at h
          refine ⟨_, last_at _ _, ?_⟩
          refine ⟨_, last_upd _ _ _, ?_⟩
          exact h _ (.two _ _ _ _)
/-- the number so far -/
def Got (o : List Nat) (got : Int) : Prop := (o = [] ∧ got = -1) ∨ ∃ n r, o = n :: r ∧ got = (n : Int) ∧ n ≤ mostB ∧ ∀ x ∈ r, x = n
set_option maxHeartbeats 2000000 in
theorem lengths_a {st : St} {R : AV → St → Prop} {b : Nat} {mi : Int} (t e : Nat) (l : List ByteArray) (hb : b < st.heap.length) (hn : l.length ≤ 1000) (hl : ∀ x ∈ l, x.size ≤ 4000) (h : ∀ st', Gr st st' → R (frA (lenOf (numsW l))) st') :
    ACalls Tryz.prog 309 [.agg [.ptr b 0, .i mi], .sl (.own t e) 1 (strL l)] st R := by
  have hmx : maxLen = 9223372036854775807 := rfl
  have hmb : (mostB : Int) = 1099511627776 := rfl
  have ell := strL_len l
  have bad : ∀ (o : Option (List Nat)) (pre : List Nat), numsW l = o.map (pre ++ ·) → lenOf (o.map (pre ++ ·)) = errF 28 → ∀ st', Gr st st' → R (frA (errF 28)) st' := fun o pre h1 h2 => by rw [h1, h2] at h; exact h
  refine ACalls.of_vc T_ok mixed Tryz.func309 rfl Tryz.call309 ?_
  refine ⟨hb, ?_⟩
  refine vc_loop [6, 17] (fun g vals st' => ∃ (k : Nat) (got : Int) (o : List Nat), k + g = l.length ∧ vals = [.i got, .i k] ∧ st' = ⟨(st.heap ++ [[.ptr b 0, .i mi]]) ++ [[.i 0, .i 0]], st.tk⟩ ∧ Got o got ∧ numsW l = (numsW (l.drop k)).map (o ++ ·)) l.length rfl ⟨0, -1, [], by omega, rfl, rfl, .inl ⟨rfl, rfl⟩, by simp⟩ ?_
  rintro g vals st' ⟨k, got, o, hk, rfl, rfl, hG, hW⟩
  refine cnd_split (fun hd => ?_) (fun hd => ?_)
  · have hd := of_decide_eq_true hd
    have k1 : k < l.length := by omega
    have sz := hl l[k] (List.getElem_mem k1)
    have ps := split_p l[k] (by omega)
    unfold splR at ps
    rw [numsW_at k1] at hW
    refine ⟨k, _, rfl, strL_at k1, ?_⟩
    cases hsp : splitW l[k] with
    | none =>
      rw [hsp] at ps hW
      refine .p rfl ps ?_
      refine ⟨_, last_at _ _, ?_⟩
      refine ⟨_, last_upd _ _ _, ?_⟩
      exact bad none o hW rfl _ (.two _ _ _ _)
    | some p =>
      rw [hsp] at ps hW
      have elp := strL_len p
      have pb := splW_bound _ 0 [] p rfl (Nat.zero_le _) hsp
      have pn : p.length ≤ 4001 := by have := pb.1; simp at this; omega
      refine .p rfl ps ?_
      refine vc_loop [6, 31] (fun g2 vals st2 => ∃ (j : Nat) (got : Int) (q : List Nat), j + g2 = p.length ∧ vals = [.i got, .i j] ∧ st2 = ⟨(st.heap ++ [[.ptr b 0, .i mi]]) ++ [[.i 0, .i 0]], st.tk⟩ ∧ Got q got ∧ numsW l = (restN (p.drop j) (numsW (l.drop (k + 1)))).map (q ++ ·)) p.length rfl ⟨0, got, o, by omega, rfl, rfl, hG, hW⟩ ?_
      rintro g2 vals st2 ⟨j, got, q, hj, rfl, rfl, hG, hW⟩
      refine cnd_split (fun hd2 => ?_) (fun hd2 => ?_)
      · have hd2 := of_decide_eq_true hd2
        have j1 : j < p.length := by omega
        have szj : p[j].size ≤ 4000 := by
          rcases pb.2 p[j] (List.getElem_mem j1) with h | h
          · simp at h
          · omega
        have hdec := decimal_p p[j] (by omega)
        rw [restN_at j1] at hW
        refine ⟨j, _, rfl, strL_at j1, ?_⟩
        refine .p rfl hdec ?_
        cases hnm : num1 p[j] with
        | none =>
          have h2 := num1_none hnm
          rw [hnm] at hW
          refine cnd_split (fun h3 => ?_) (fun h3 => ?_)
          · refine ⟨_, last_at _ _, ?_⟩
            refine ⟨_, last_upd _ _ _, ?_⟩
            exact bad none q hW rfl _ (.two _ _ _ _)
          · exact absurd (show (readG 10 p[j] mostB).2 = 0 by simpa using h3) h2
        | some n =>
          obtain ⟨e0, e1, e2⟩ := num1_some hnm
          rw [hnm] at hW
          rw [e0, e1]
          have hW' : numsW l = (restN (p.drop (j + 1)) (numsW (l.drop (k + 1)))).map ((q ++ [n]) ++ ·) := by
            rw [hW]
            cases restN (p.drop (j + 1)) (numsW (l.drop (k + 1))) <;> simp
          have next : Got (q ++ [n]) n → ∃ g', g' < g2 ∧ ∃ (j' : Nat) (got : Int) (q : List Nat), j' + g' = p.length ∧ [AV.i n, AV.i (j + 1 : Nat)] = [.i got, .i j'] ∧ (⟨(st.heap ++ [[.ptr b 0, .i mi]]) ++ [[.i 0, .i 0]], st.tk⟩ : St) = ⟨(st.heap ++ [[.ptr b 0, .i mi]]) ++ [[.i 0, .i 0]], st.tk⟩ ∧ Got q got ∧ numsW l = (restN (p.drop j') (numsW (l.drop (k + 1)))).map (q ++ ·) :=
            fun hg => ⟨g2 - 1, by omega, j + 1, n, q ++ [n], by omega, rfl, rfl, hg, hW'⟩
          refine cnd_split (fun h4 => ?_) (fun h4 => ?_)
          · have h4 := of_decide_eq_true h4
            rcases hG with ⟨_, hg⟩ | ⟨n0, r, rfl, hg, hle, hr⟩
            · omega
            · refine cnd_split (fun h5 => ?_) (fun h5 => ?_)
              · have h5 : ¬ (n : Int) = got := by simpa using h5
                refine ⟨_, last_at _ _, ?_⟩
                refine ⟨_, last_upd _ _ _, ?_⟩
                exact bad _ _ hW' (lenOf_bad _ (fun e => h5 (by rw [hg, e]))) _ (.two _ _ _ _)
              · have h5 : (n : Int) = got := by simpa using h5
                intro c hc
                rw [IntWalk.i64_in _ (by omega)] at hc
                obtain rfl : c = ((j + 1 : Nat) : Int) := by omega
                refine next (.inr ⟨n0, r ++ [n], rfl, by omega, hle, fun x hx => ?_⟩)
                rcases List.mem_append.1 hx with hx | hx
                · exact hr x hx
                · rw [List.mem_singleton.1 hx]; omega
          · have h4 := of_decide_eq_false h4
            rcases hG with ⟨rfl, hg⟩ | ⟨n0, r, rfl, hg, hle, hr⟩
            · intro c hc
              rw [IntWalk.i64_in _ (by omega)] at hc
              obtain rfl : c = ((j + 1 : Nat) : Int) := by omega
              exact next (.inr ⟨n, [], rfl, rfl, e2, fun x hx => by simp at hx⟩)
            · omega
      · have hd2 := of_decide_eq_false hd2
        have : p.drop j = [] := List.drop_of_length_le (by omega)
        rw [this] at hW
        intro c hc
        rw [IntWalk.i64_in _ (by omega)] at hc
        obtain rfl : c = ((k + 1 : Nat) : Int) := by omega
        exact ⟨g - 1, by omega, k + 1, got, q, by omega, rfl, rfl, hG, hW⟩
  · have hd := of_decide_eq_false hd
    have : l.drop k = [] := List.drop_of_length_le (by omega)
    rw [this] at hW
    simp only [numsW, Option.map_some, List.append_nil] at hW
    rw [hW] at h
    refine cnd_split (fun h3 => ?_) (fun h3 => ?_)
    · have h3 := of_decide_eq_true h3
      rcases hG with ⟨rfl, hg⟩ | ⟨n0, r, rfl, hg, hle, hr⟩
      · refine ⟨_, last_at _ _, ?_⟩
        refine ⟨_, last_upd _ _ _, ?_⟩
        exact h _ (.two _ _ _ _)
      · omega
    · have h3 := of_decide_eq_false h3
      rcases hG with ⟨rfl, hg⟩ | ⟨n0, r, rfl, hg, hle, hr⟩
      · omega
      · refine ⟨_, last_at _ _, ?_⟩
        refine ⟨_, last_upd _ _ _, ?_⟩
        have e : lenOf (some (n0 :: r)) = (2, got, 0) := by
          show (if _ then _ else _) = _
          rw [if_pos hr, hg]
        rw [e] at h
        exact h _ (.two _ _ _ _)
theorem Pre.len {a b : St} (h : Pre a b) : a.heap.length ≤ b.heap.length := by
  obtain ⟨l, h⟩ := h
  rw [h, List.length_append]; omega
theorem TE_fold : foldB ⟨#[84, 114, 97, 110, 115, 102, 101, 114, 45, 69, 110, 99, 111, 100, 105, 110, 103]⟩ = foldB teS := rfl
theorem CL_fold : foldB ⟨#[67, 111, 110, 116, 101, 110, 116, 45, 76, 101, 110, 103, 116, 104]⟩ = foldB clS := rfl
set_option maxHeartbeats 2000000 in
theorem of_p (k c mi none : Int) (m t r : ByteArray) (l : List Fld) (hl : FldOk l) : APure Tryz.prog 272 [hdA k c mi m t r (.sl .no 2 (fldL l)), .i none] (frA (ofW l mi none)) [] := by
  have hll := hl.len
  have sT := valsW_congr TE_fold l
  have sC := valsW_congr CL_fold l
  refine APure.of rfl (ACalls.of_vc T_ok mixed Tryz.func272 rfl Tryz.call272 ?_)
  refine vc_cut [6] (fun vals st' => ∃ q b tk, vals = [.ptr q 0] ∧ st'.heap[q]? = some [.ptr b 0, .i mi] ∧ st'.heap[b]? = some [.sl .no 2 (fldL l)] ∧ st'.heap[1]? = some [.i 0, .i 0] ∧ st'.tk = tk)
    (.one 0 (.one 1 (.one 3 (.one 4 (.two 2 6 (.one 5 (.one 6 (.one 7 .done))) (.one 2 (.one 5 (.one 7 .done)))))))) (by kernel_rfl) (by kernel_rfl) ?_ ?_
  · refine ⟨_, rfl, ?_⟩
    refine ⟨_, rfl, ?_⟩
    refine ⟨?_, ?_⟩
    · refine .s (newB_a l (by omega) ⟨⟨_, rfl⟩, ?_⟩)
      refine ⟨_, rfl, ?_⟩
      exact ⟨3, 2, _, rfl, rfl, rfl, rfl, rfl⟩
    · refine .s (newB_a l (by omega) ⟨⟨_, rfl⟩, ?_⟩)
      refine ⟨_, rfl, ?_⟩
      exact ⟨2, 3, _, rfl, rfl, rfl, rfl, rfl⟩
  rintro vals st1 ⟨q, b, tk, rfl, hq, hb, h1, rfl⟩
  refine .n (.one 0 (.one 1 (.one 3 (.one 4 (.one 2 (.one 5 (.one 6 (.one 7 .done)))))))) (by kernel_rfl) ?_
  refine ⟨_, hq, ?_⟩
  refine ⟨_, hq, ?_⟩
  refine .s (values_a l _ (by omega) hl.big (by decide) hb fun a st2 g2 a2 => ⟨g2.pre, ?_⟩)
  have hb2 := g2.pre.at' hb
  have hq2 := g2.pre.at' hq
  have h12 := g2.pre.at' h1
  rw [sT] at a2
  have vt := hl.vlen teS
  have vts := hl.vsize teS
  generalize hT : valsW teS l = te at a2 vt vts
  have hE : ofW l mi none = if te = [] then (if valsW clS l = [] then (none, 0, 0) else lenOf (numsW (valsW clS l))) else if valsW clS l = [] then codW te mi else errF 29 := by unfold ofW; rw [hT]
  have vc := hl.vlen clS
  have vcs := hl.vsize clS
  have set1 : ∀ {h : List (List AV)} {z : List AV} (cs : List AV), h[1]? = some z → (h.set 1 cs)[1]? = some cs := fun cs h => List.getElem?_set_self (List.getElem?_eq_some_iff.1 h).1
  generalize hes : strL te = es at a2
  have elt := strL_len te
  have te0 := nil_len te
  cases a2 with
  | nil =>
    have te0 : te = [] := te0.1 hes
    rw [if_pos te0] at hE
    refine .s (values_a l _ (by omega) hl.big (by decide) hb2 fun a' st3 g3 a3 => ⟨g3.pre, ?_⟩)
    have hb3 := g3.pre.at' hb2
    have hq3 := g3.pre.at' hq2
    have h13 := g3.pre.at' h12
    rw [sC] at a3
    generalize valsW clS l = cl at a3 vc vcs hE
    generalize hec : strL cl = ec at a3
    have elc := strL_len cl
    have cl0 := nil_len cl
    cases a3 with
    | nil =>
      rw [if_pos (cl0.1 hec)] at hE
      refine ⟨_, h13, ?_⟩
      refine ⟨_, set1 _ h13, ?_⟩
      exact (by rw [hE]; rfl)
    | own t1 e1 ec w0 w1 =>
      subst hec
      refine cnd_split (fun hd => ?_) (fun hd => ?_)
      · have hd := of_decide_eq_true hd
        rw [if_neg (fun e => by rw [e] at hd; exact absurd hd (by decide))] at hE
        refine ⟨_, hq3, ?_⟩
        refine .s (lengths_a _ _ cl (List.getElem?_eq_some_iff.1 hb3).1 vc vcs fun st4 g4 => ?_)
        have h14 := g4.pre.at' h13
        refine ⟨_, h14, ?_⟩
        refine ⟨_, set1 _ h14, ?_⟩
        exact (by rw [hE]; rfl)
      · have hd := of_decide_eq_false hd
        rw [if_pos (List.eq_nil_of_length_eq_zero (by omega))] at hE
        refine ⟨_, h13, ?_⟩
        refine ⟨_, set1 _ h13, ?_⟩
        exact (by rw [hE]; rfl)
  | own t0 e0 es q0 q1 =>
    subst hes
    refine .s (values_a l _ (by omega) hl.big (by decide) hb2 fun a' st3 g3 a3 => ⟨g3.pre, ?_⟩)
    have hb3 := g3.pre.at' hb2
    have hq3 := g3.pre.at' hq2
    have h13 := g3.pre.at' h12
    rw [sC] at a3
    generalize valsW clS l = cl at a3 vc vcs hE
    generalize hec : strL cl = ec at a3
    have elc := strL_len cl
    have cl0 := nil_len cl
    cases a3 with
    | nil =>
      have cl0 := cl0.1 hec
      rw [if_pos cl0, if_pos cl0] at hE
      refine cnd_split (fun hd => ?_) (fun hd => ?_)
      · refine cnd_split (fun hd => ?_) (fun hd' => ?_)
        · have hd := of_decide_eq_true hd
          rw [if_neg (fun e => by rw [e] at hd; exact absurd hd (by decide))] at hE
          refine ⟨_, hq3, ?_⟩
          refine .s (coding_a _ _ te (List.getElem?_eq_some_iff.1 hb3).1 vt vts fun st4 g4 => ?_)
          have h14 := g4.pre.at' h13
          refine ⟨_, h14, ?_⟩
          refine ⟨_, set1 _ h14, ?_⟩
          exact (by rw [hE]; rfl)
        · rw [hd] at hd'; cases hd'
      · refine cnd_split (fun hd' => ?_) (fun hd => ?_)
        · rw [hd] at hd'; cases hd'
        · have hd := of_decide_eq_false hd
          rw [if_pos (List.eq_nil_of_length_eq_zero (by omega))] at hE
          refine ⟨_, h13, ?_⟩
          refine ⟨_, set1 _ h13, ?_⟩
          exact (by rw [hE]; rfl)
    | own t1 e1 ec w0 w1 =>
      subst hec
      refine cnd_split (fun hd => ?_) (fun hd => ?_)
      · have hdt := of_decide_eq_true hd
        rw [if_neg (fun e => by rw [e] at hdt; exact absurd hdt (by decide))] at hE
        refine cnd_split (fun hd2 => ?_) (fun hd2 => ?_)
        · have hdc := of_decide_eq_true hd2
          rw [if_neg (fun e => by rw [e] at hdc; exact absurd hdc (by decide))] at hE
          refine ⟨_, h13, ?_⟩
          refine ⟨_, set1 _ h13, ?_⟩
          exact (by rw [hE]; rfl)
        · have hdc := of_decide_eq_false hd2
          rw [if_pos (List.eq_nil_of_length_eq_zero (by omega))] at hE
          refine cnd_split (fun hd => ?_) (fun hd' => ?_)
          · skip
            refine ⟨_, hq3, ?_⟩
            refine .s (coding_a _ _ te (List.getElem?_eq_some_iff.1 hb3).1 vt vts fun st4 g4 => ?_)
            have h14 := g4.pre.at' h13
            refine ⟨_, h14, ?_⟩
            refine ⟨_, set1 _ h14, ?_⟩
            exact (by rw [hE]; rfl)
          · rw [hd] at hd'; cases hd'
      · have hdt := of_decide_eq_false hd
        rw [if_pos (List.eq_nil_of_length_eq_zero (by omega))] at hE
        refine cnd_split (fun hd' => ?_) (fun hd => ?_)
        · rw [hd] at hd'; cases hd'
        · refine cnd_split (fun hd => ?_) (fun hd => ?_)
          · have hd := of_decide_eq_true hd
            rw [if_neg (fun e => by rw [e] at hd; exact absurd hd (by decide))] at hE
            refine ⟨_, hq3, ?_⟩
            refine .s (lengths_a _ _ cl (List.getElem?_eq_some_iff.1 hb3).1 vc vcs fun st4 g4 => ?_)
            have h14 := g4.pre.at' h13
            refine ⟨_, h14, ?_⟩
            refine ⟨_, set1 _ h14, ?_⟩
            exact (by rw [hE]; rfl)
          · have hd := of_decide_eq_false hd
            rw [if_pos (List.eq_nil_of_length_eq_zero (by omega))] at hE
            refine ⟨_, h13, ?_⟩
            refine ⟨_, set1 _ h13, ?_⟩
            exact (by rw [hE]; rfl)
end Go.Proofs.YthnmbfiandpedaaGreatDoor
/- Hooks of the runs: what rules may ask for. No statement of its own. -/
set_option linter.unusedSimpArgs false
set_option linter.unusedVariables false
set_option maxRecDepth 100000
namespace Go.Proofs.YthnmbfiandpedaaGreatDoor
open Go.RowKit
theorem APure.weakW {P : Program} {f : FuncId} {args args' : List AV} {r : AV} {ns : List Nat} (hw : ArgsW args args') (h : APure P f args' r ns) : APure P f args r ns :=
  ⟨h.1, h.2.1, fun J w vs hw' hl ha => h.2.2 J w vs hw' (hw.length.symm.trans hl) fun j a' v hj hv => by
    obtain ⟨a, e, hwa⟩ := hw.get j a' hj
    exact argW_at (ha j a v e hv) (fun g x hi _ => hi) hwa⟩
noncomputable def rowN (a : AV) : Option (List (List AV)) := match a with
  | .sl .no n es => match Nat.beq n 2 with | true => some es | false => none
  | .lit (.slice none 0 0) => some []
  | _ => none
theorem rowN_cell {a : AV} {es : List (List AV)} (h : rowN a = some es) : cellW a (.sl .no 2 es) := by
  unfold rowN at h
  split at h
  · split at h
    · rename_i e
      have := Nat.eq_of_beq_eq_true e
      subst this
      cases h
      exact .inl ⟨rfl, rfl⟩
    · cases h
  · cases h
    exact .inr ⟨rfl, 2, rfl⟩
  · cases h
noncomputable def hkKn (args : List AV) : Option AV := match args with
  | [.agg [.lit (.string cl), .lit (.string ho), .lit (.string sc), .lit (.string b), dm, lm], .agg [.lit (.int .i64 k), .lit (.string me), .lit (.string ta), .lit (.int .i64 (.ofNat co)), .lit (.string re), .lit (.int .i64 mi), fs]] =>
    match rowN dm, rowN lm, rowN fs with
    | some d, some l, some f => match Nat.ble (lenE ta.data.toList) 1000000 && Nat.ble co 1000000 with
      | true => some (.sl .no 2 (fldL (knownA cl ho sc k me ta co)))
      | false => none
    | _, _, _ => none
  | _ => none
theorem hkKn_ok : FhOk Tryz.prog 275 (.hook hkKn) := by
  intro args r h
  unfold hkKn at h
  split at h
  · rename_i cl ho sc b dm lm k me ta co re mi fs
    split at h
    · rename_i d l f e1 e2 e3
      split at h
      · rename_i e
        simp only [Bool.and_eq_true] at e
        have ea := Nat.le_of_ble_eq_true e.1
        have eb := Nat.le_of_ble_eq_true e.2
        rw [lenE_eq, size8] at ea
        cases h
        refine APure.weakW (args' := [.agg [.s cl, .s ho, .s sc, .s b, .sl .no 2 d, .sl .no 2 l], .agg [.i k, .s me, .s ta, .i co, .s re, .i mi, .sl .no 2 f]]) ⟨.inl (.inr ⟨_, _, rfl, rfl, ?_⟩), .inl (.inr ⟨_, _, rfl, rfl, ?_⟩), trivial⟩ (known_p cl ho sc b me ta re d l f k co mi (by omega) (by omega))
        · exact ⟨.inl ⟨rfl, rfl⟩, .inl ⟨rfl, rfl⟩, .inl ⟨rfl, rfl⟩, .inl ⟨rfl, rfl⟩, rowN_cell e1, rowN_cell e2, trivial⟩
        · exact ⟨.inl ⟨rfl, rfl⟩, .inl ⟨rfl, rfl⟩, .inl ⟨rfl, rfl⟩, .inl ⟨rfl, rfl⟩, .inl ⟨rfl, rfl⟩, .inl ⟨rfl, rfl⟩, rowN_cell e3, trivial⟩
      · cases h
    · cases h
  · cases h
noncomputable def hkFold (args : List AV) : Option AV := match args with
  | [.lit (.string s)] => small8 s (.s (foldB s))
  | _ => none
theorem hkFold_ok : FhOk Tryz.prog 204 (.hook hkFold) := by
  intro args r h
  unfold hkFold at h
  split at h
  · rename_i s
    obtain ⟨h1, rfl⟩ := small8_of h
    have hmx : maxLen = 9223372036854775807 := rfl
    exact foldO_p s (by omega)
  · cases h
noncomputable def hkHostP (args : List AV) : Option AV := match args with
  | [.lit (.string s)] => small8 s (.tup [hstA (hostP s).1, .i (hostP s).2])
  | _ => none
theorem hkHostP_ok : FhOk Tryz.prog 101 (.hook hkHostP) := by
  intro args r h
  unfold hkHostP at h
  split at h
  · rename_i s
    obtain ⟨h1, rfl⟩ := small8_of h
    have hmx : maxLen = 9223372036854775807 := rfl
    exact hostP_p s (by omega)
  · cases h
noncomputable def hkPcut (args : List AV) : Option AV := match args with
  | [.lit (.string s)] => small8 s (.tup [.s (pcut s).1, .s (pcut s).2.1, .b (pcut s).2.2.1, .i (pcut s).2.2.2])
  | _ => none
theorem hkPcut_ok : FhOk Tryz.prog 261 (.hook hkPcut) := by
  intro args r h
  unfold hkPcut at h
  split at h
  · rename_i s
    obtain ⟨h1, rfl⟩ := small8_of h
    have hmx : maxLen = 9223372036854775807 := rfl
    exact pcut_p s (by omega)
  · cases h
noncomputable def hkTok : List AV → Option AV := hkQ tokI
theorem hkTok_ok : FhOk Tryz.prog 89 (.hook hkTok) := hkQ_ok fun n h0 h1 => isToken_p n h0 h1
noncomputable def hkVal : List AV → Option AV := hkQ valI
theorem hkVal_ok : FhOk Tryz.prog 55 (.hook hkVal) := hkQ_ok fun n h0 h1 => isValue_p n
noncomputable def hkDig : List AV → Option AV := hkQ digI
theorem hkDig_ok : FhOk Tryz.prog 115 (.hook hkDig) := hkQ_ok fun n h0 h1 => isDigit_p n
noncomputable def hkHex : List AV → Option AV := hkQ hexI
theorem hkHex_ok : FhOk Tryz.prog 291 (.hook hkHex) := hkQ_ok fun n h0 h1 => hexq_p n h0 h1
noncomputable def hkPth : List AV → Option AV := hkQ pthI
theorem hkPth_ok : FhOk Tryz.prog 330 (.hook hkPth) := hkQ_ok fun n h0 h1 => pth_p n h0 h1
noncomputable def hkUnr : List AV → Option AV := hkQ unrI
theorem hkUnr_ok : FhOk Tryz.prog 253 (.hook hkUnr) := hkQ_ok fun n h0 h1 => unr_p n h0 h1
noncomputable def hkSub : List AV → Option AV := hkQ subI
theorem hkSub_ok : FhOk Tryz.prog 254 (.hook hkSub) := hkQ_ok fun n h0 h1 => sub_p n
noncomputable def unF : List (List AV) → Option (List Fld)
  | [] => some []
  | e :: r => match e with
    | [.lit (.string a), .lit (.string b)] => match Nat.ble (lenE a.data.toList) 4000 && Nat.ble (lenE b.data.toList) 4000 with
      | true => match unF r with
        | some l => some ((a, b) :: l)
        | none => none
      | false => none
    | _ => none
theorem unF_eq : ∀ {es : List (List AV)} {l : List Fld}, unF es = some l → es = fldL l ∧ ∀ f ∈ l, f.1.size ≤ 4000 ∧ f.2.size ≤ 4000
  | [], l, h => by cases h; exact ⟨rfl, fun f hf => by cases hf⟩
  | e :: r, l, h => by
    unfold unF at h
    split at h
    · rename_i a b
      split at h
      · rename_i e1
        simp only [Bool.and_eq_true] at e1
        have ea := Nat.le_of_ble_eq_true e1.1
        have eb := Nat.le_of_ble_eq_true e1.2
        rw [lenE_eq, size8] at ea eb
        split at h
        · rename_i l' h1
          cases h
          obtain ⟨i1, i2⟩ := unF_eq h1
          refine ⟨by rw [i1]; rfl, fun f hf => ?_⟩
          rcases List.mem_cons.1 hf with rfl | hf
          · exact ⟨ea, eb⟩
          · exact i2 f hf
        · cases h
      · cases h
    · cases h
noncomputable def hkLen (args : List AV) : Option AV := match args with
  | [.agg [.lit (.int .i64 k), .lit (.string m), .lit (.string t), .lit (.int .i64 c), .lit (.string r), .lit (.int .i64 mi), fs], .lit (.int .i64 n)] =>
    match rowN fs with
    | some es => match unF es with
      | some l => match Nat.ble (lenE l) 1000 with
        | true => some (frA (ofW l mi n))
        | false => none
      | none => none
    | none => none
  | _ => none
theorem hkLen_ok : FhOk Tryz.prog 272 (.hook hkLen) := by
  intro args r h
  unfold hkLen at h
  split at h
  · rename_i k m t c r mi fs n
    split at h
    · rename_i es e1
      split at h
      · rename_i l e2
        split at h
        · rename_i e3
          have e3 := Nat.le_of_ble_eq_true e3
          rw [lenE_eq] at e3
          cases h
          obtain ⟨rfl, hs⟩ := unF_eq e2
          refine APure.weakW (args' := [.agg [.i k, .s m, .s t, .i c, .s r, .i mi, .sl .no 2 (fldL l)], .i n]) ⟨.inl (.inr ⟨_, _, rfl, rfl, ?_⟩), .inl (.inl ⟨rfl, rfl⟩), trivial⟩ (of_p k c mi n m t r l ⟨e3, hs⟩)
          exact ⟨.inl ⟨rfl, rfl⟩, .inl ⟨rfl, rfl⟩, .inl ⟨rfl, rfl⟩, .inl ⟨rfl, rfl⟩, .inl ⟨rfl, rfl⟩, .inl ⟨rfl, rfl⟩, rowN_cell e1, trivial⟩
        · cases h
      · cases h
    · cases h
  · cases h
end Go.Proofs.YthnmbfiandpedaaGreatDoor
