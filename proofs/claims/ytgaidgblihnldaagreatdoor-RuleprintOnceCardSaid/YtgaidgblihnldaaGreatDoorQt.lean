/- Texts in quotes: written by the program and by the document. No statement of its own. -/
import Derived.Test.YtgaidgblihnldaaGreatDoorSm
import Derived.Test.YtgaidgblihnldaaGreatDoorSp
import Derived.Test.YtgaidgblihnldaaGreatDoorRk
set_option linter.unusedSimpArgs false
set_option linter.unusedVariables false
set_option maxRecDepth 100000
namespace Go.Proofs.YtgaidgblihnldaaGreatDoor
open Go.RowKit
/-- a row that is being made, not empty -/
inductive Acc2 (n : Nat) (tk : List Nat) (sz : Nat) : AV → List (List AV) → Prop
  | tight (e0 : List AV) (es : List (List AV)) : Acc2 n tk sz (.sl .tight sz (e0 :: es)) (e0 :: es)
  | own (t e : Nat) (es : List (List AV)) (hn : n ≤ t) (ht : tk[t]? = some e) : Acc2 n tk sz (.sl (.own t e) sz es) es
theorem Acc2.app {n : Nat} {st : St} {i : TI} {a : AV} {es ys : List (List AV)} {tg : Tk} {K : AV → St → Prop} (h : Acc2 n st.tk i.size a es) (hn : n ≤ st.tk.length) (hy : ys ≠ []) (hb : (es.length + ys.length) * i.bytes ≤ 140737488355328) (hm : es.length + ys.length ≤ maxLen)
    (hK : ∀ t e tk', n ≤ t → tk'[t]? = some e → n ≤ tk'.length → (∀ t, t < n → tk'[t]? = st.tk[t]?) → K (.sl (.own t e) i.size (es ++ ys)) ⟨st.heap, tk'⟩) : vcApp i a (.sl tg i.size ys) st K := by
  cases h with
  | tight e0 es =>
    unfold vcApp srcA
    simp only [decide_true]
    refine ⟨fun e => absurd e hy, fun _ => ⟨hb, hm, ?_⟩⟩
    refine hK _ _ _ hn (by simp) (by simp; omega) (fun t ht => ?_)
    rw [List.getElem?_append_left (by omega)]
  | own t e es h1 h2 => exact Acc.app (.own t e es h1 h2) hn hy hb hm hK
attribute [local irreducible] vcApp
set_option maxHeartbeats 1000000 in
theorem quote_p (s : ByteArray) (hs : s.size ≤ 1099511627776) : APure Tryz.prog 43 [.s s] (.tup [.s (quoteR s).1, .i (quoteR s).2]) [] := by
  have hmx : maxLen = 9223372036854775807 := rfl
  refine APure.of rfl (ACalls.of_vc T_ok mixed Tryz.func43 rfl Tryz.call43 ?_)
  refine .p rfl (allF_p isValue_f s (by omega)) ?_
  refine cnd_split (fun hv => ?_) (fun hv => ?_)
  · rw [Bool.not_eq_true'] at hv
    have e : quoteR s = (⟨#[]⟩, 2) := by unfold quoteR; rw [hv]; rfl
    rw [e]
    rfl
  rw [Bool.not_eq_false'] at hv
  have e : quoteR s = (quoteB s, 0) := by unfold quoteR; rw [if_pos hv]
  rw [e]
  refine vc_loop [4, 13] (fun g vals st' => ∃ (k : Nat) (a : AV), k + g = s.size ∧ vals = [a, .i k] ∧ Acc2 0 st'.tk 1 a (u8L (34 :: quoteL (s.data.toList.take k)))) s.size rfl ⟨0, _, by omega, rfl, .tight _ _⟩ ?_
  rintro g vals st1 ⟨k, a, hk, rfl, hA⟩
  have hql := quoteL_len (s.data.toList.take k)
  have hlk : (s.data.toList.take k).length ≤ k := by rw [List.length_take]; omega
  have hA0 := hA
  cases hA with
  | tight e0 es9 =>
    skip
    have hA := hA0
    refine cnd_split (fun hd => ?_) (fun hd => ?_)
    · have hd := of_decide_eq_true hd
      have k1 : k < s.size := by omega
      have hsn : quoteL (s.data.toList.take (k + 1)) = quoteL (s.data.toList.take k) ++ (if qtI (s[k].toNat : Int) = true then [92, s[k]] else [s[k]]) := by
        rw [List.take_add_one, List.getElem?_eq_getElem (by rw [blen]; exact k1), Option.toList_some, quoteL_snoc, bget s k k1]
      refine ⟨k, k1, rfl, ?_⟩
      refine cnd_split (fun h1 => ?_) (fun h1 => ?_)
      · have hq : qtI (s[k].toNat : Int) = true := by unfold qtI; rw [h1]; rfl
        refine Acc2.app (n := 0) (i := ti5) (es := (u8L (34 :: quoteL (s.data.toList.take k)))) hA (Nat.zero_le _) (List.cons_ne_nil _ _) ?_ ?_ (fun t e tk' q0 q1 q2 q3 => ?_)
        · show (List.length _ + 1) * 1 ≤ _; simp only [List.length_append, u8L_len, List.length_cons, List.length_nil]; omega
        · show List.length _ + 1 ≤ 9223372036854775807; simp only [List.length_append, u8L_len, List.length_cons, List.length_nil]; omega
        refine ⟨k, k1, rfl, ?_⟩
        refine Acc2.app (n := 0) (i := ti5) (es := (u8L (34 :: quoteL (s.data.toList.take k)) ++ [[.u8 92]])) (.own t e _ q0 q1) (Nat.zero_le _) (List.cons_ne_nil _ _) ?_ ?_ (fun t2 e2 tk2 z0 z1 z2 z3 => ?_)
        · show (List.length _ + 1) * 1 ≤ _; simp only [List.length_append, u8L_len, List.length_cons, List.length_nil]; omega
        · show List.length _ + 1 ≤ 9223372036854775807; simp only [List.length_append, u8L_len, List.length_cons, List.length_nil]; omega
        intro c hc
        rw [IntWalk.i64_in _ (by omega)] at hc
        obtain rfl : c = ((k + 1 : Nat) : Int) := by omega
        have he : u8L (34 :: quoteL (s.data.toList.take (k + 1))) = u8L (34 :: quoteL (s.data.toList.take k)) ++ [[.u8 92]] ++ [[.u8 s[k]]] := by rw [hsn, if_pos hq]; simp [u8L]
        refine ⟨g - 1, by omega, k + 1, _, by omega, rfl, ?_⟩
        rw [he]
        exact .own _ _ _ z0 z1
      · refine ⟨k, k1, rfl, ?_⟩
        refine cnd_split (fun h2 => ?_) (fun h2 => ?_)
        · have hq : qtI (s[k].toNat : Int) = true := by unfold qtI; rw [h1, h2]; rfl
          refine Acc2.app (n := 0) (i := ti5) (es := (u8L (34 :: quoteL (s.data.toList.take k)))) hA (Nat.zero_le _) (List.cons_ne_nil _ _) ?_ ?_ (fun t e tk' q0 q1 q2 q3 => ?_)
          · show (List.length _ + 1) * 1 ≤ _; simp only [List.length_append, u8L_len, List.length_cons, List.length_nil]; omega
          · show List.length _ + 1 ≤ 9223372036854775807; simp only [List.length_append, u8L_len, List.length_cons, List.length_nil]; omega
          refine ⟨k, k1, rfl, ?_⟩
          refine Acc2.app (n := 0) (i := ti5) (es := (u8L (34 :: quoteL (s.data.toList.take k)) ++ [[.u8 92]])) (.own t e _ q0 q1) (Nat.zero_le _) (List.cons_ne_nil _ _) ?_ ?_ (fun t2 e2 tk2 z0 z1 z2 z3 => ?_)
          · show (List.length _ + 1) * 1 ≤ _; simp only [List.length_append, u8L_len, List.length_cons, List.length_nil]; omega
          · show List.length _ + 1 ≤ 9223372036854775807; simp only [List.length_append, u8L_len, List.length_cons, List.length_nil]; omega
          intro c hc
          rw [IntWalk.i64_in _ (by omega)] at hc
          obtain rfl : c = ((k + 1 : Nat) : Int) := by omega
          have he : u8L (34 :: quoteL (s.data.toList.take (k + 1))) = u8L (34 :: quoteL (s.data.toList.take k)) ++ [[.u8 92]] ++ [[.u8 s[k]]] := by rw [hsn, if_pos hq]; simp [u8L]
          refine ⟨g - 1, by omega, k + 1, _, by omega, rfl, ?_⟩
          rw [he]
          exact .own _ _ _ z0 z1
        · have hq : ¬ qtI (s[k].toNat : Int) = true := by unfold qtI; rw [h1, h2]; decide
          refine ⟨k, k1, rfl, ?_⟩
          refine Acc2.app (n := 0) (i := ti5) (es := (u8L (34 :: quoteL (s.data.toList.take k)))) hA (Nat.zero_le _) (List.cons_ne_nil _ _) ?_ ?_ (fun t e tk' q0 q1 q2 q3 => ?_)
          · show (List.length _ + 1) * 1 ≤ _; simp only [List.length_append, u8L_len, List.length_cons, List.length_nil]; omega
          · show List.length _ + 1 ≤ 9223372036854775807; simp only [List.length_append, u8L_len, List.length_cons, List.length_nil]; omega
          intro c hc
          rw [IntWalk.i64_in _ (by omega)] at hc
          obtain rfl : c = ((k + 1 : Nat) : Int) := by omega
          have he : u8L (34 :: quoteL (s.data.toList.take (k + 1))) = u8L (34 :: quoteL (s.data.toList.take k)) ++ [[.u8 s[k]]] := by rw [hsn, if_neg hq]; simp [u8L]
          refine ⟨g - 1, by omega, k + 1, _, by omega, rfl, ?_⟩
          rw [he]
          exact .own _ _ _ q0 q1
    · have hd := of_decide_eq_false hd
      obtain rfl : k = s.size := by omega
      refine Acc2.app (n := 0) (i := ti5) (es := (u8L (34 :: quoteL (s.data.toList.take s.size)))) hA (Nat.zero_le _) (List.cons_ne_nil _ _) ?_ ?_ (fun t e tk' q0 q1 q2 q3 => ?_)
      · show (List.length _ + 1) * 1 ≤ _; simp only [List.length_append, u8L_len, List.length_cons, List.length_nil]; omega
      · show List.length _ + 1 ≤ 9223372036854775807; simp only [List.length_append, u8L_len, List.length_cons, List.length_nil]; omega
      refine ⟨quoteB s, ?_, rfl⟩
      rw [quoteB_l, List.take_of_length_le (by rw [blen]; exact Nat.le_refl _)]
      simp [u8L]
  | own t0 e0 _ hn0 ht0 =>
    skip
    have hA := hA0
    refine cnd_split (fun hd => ?_) (fun hd => ?_)
    · have hd := of_decide_eq_true hd
      have k1 : k < s.size := by omega
      have hsn : quoteL (s.data.toList.take (k + 1)) = quoteL (s.data.toList.take k) ++ (if qtI (s[k].toNat : Int) = true then [92, s[k]] else [s[k]]) := by
        rw [List.take_add_one, List.getElem?_eq_getElem (by rw [blen]; exact k1), Option.toList_some, quoteL_snoc, bget s k k1]
      refine ⟨k, k1, rfl, ?_⟩
      refine cnd_split (fun h1 => ?_) (fun h1 => ?_)
      · have hq : qtI (s[k].toNat : Int) = true := by unfold qtI; rw [h1]; rfl
        refine Acc2.app (n := 0) (i := ti5) (es := (u8L (34 :: quoteL (s.data.toList.take k)))) hA (Nat.zero_le _) (List.cons_ne_nil _ _) ?_ ?_ (fun t e tk' q0 q1 q2 q3 => ?_)
        · show (List.length _ + 1) * 1 ≤ _; simp only [List.length_append, u8L_len, List.length_cons, List.length_nil]; omega
        · show List.length _ + 1 ≤ 9223372036854775807; simp only [List.length_append, u8L_len, List.length_cons, List.length_nil]; omega
        refine ⟨k, k1, rfl, ?_⟩
        refine Acc2.app (n := 0) (i := ti5) (es := (u8L (34 :: quoteL (s.data.toList.take k)) ++ [[.u8 92]])) (.own t e _ q0 q1) (Nat.zero_le _) (List.cons_ne_nil _ _) ?_ ?_ (fun t2 e2 tk2 z0 z1 z2 z3 => ?_)
        · show (List.length _ + 1) * 1 ≤ _; simp only [List.length_append, u8L_len, List.length_cons, List.length_nil]; omega
        · show List.length _ + 1 ≤ 9223372036854775807; simp only [List.length_append, u8L_len, List.length_cons, List.length_nil]; omega
        intro c hc
        rw [IntWalk.i64_in _ (by omega)] at hc
        obtain rfl : c = ((k + 1 : Nat) : Int) := by omega
        have he : u8L (34 :: quoteL (s.data.toList.take (k + 1))) = u8L (34 :: quoteL (s.data.toList.take k)) ++ [[.u8 92]] ++ [[.u8 s[k]]] := by rw [hsn, if_pos hq]; simp [u8L]
        refine ⟨g - 1, by omega, k + 1, _, by omega, rfl, ?_⟩
        rw [he]
        exact .own _ _ _ z0 z1
      · refine ⟨k, k1, rfl, ?_⟩
        refine cnd_split (fun h2 => ?_) (fun h2 => ?_)
        · have hq : qtI (s[k].toNat : Int) = true := by unfold qtI; rw [h1, h2]; rfl
          refine Acc2.app (n := 0) (i := ti5) (es := (u8L (34 :: quoteL (s.data.toList.take k)))) hA (Nat.zero_le _) (List.cons_ne_nil _ _) ?_ ?_ (fun t e tk' q0 q1 q2 q3 => ?_)
          · show (List.length _ + 1) * 1 ≤ _; simp only [List.length_append, u8L_len, List.length_cons, List.length_nil]; omega
          · show List.length _ + 1 ≤ 9223372036854775807; simp only [List.length_append, u8L_len, List.length_cons, List.length_nil]; omega
          refine ⟨k, k1, rfl, ?_⟩
          refine Acc2.app (n := 0) (i := ti5) (es := (u8L (34 :: quoteL (s.data.toList.take k)) ++ [[.u8 92]])) (.own t e _ q0 q1) (Nat.zero_le _) (List.cons_ne_nil _ _) ?_ ?_ (fun t2 e2 tk2 z0 z1 z2 z3 => ?_)
          · show (List.length _ + 1) * 1 ≤ _; simp only [List.length_append, u8L_len, List.length_cons, List.length_nil]; omega
          · show List.length _ + 1 ≤ 9223372036854775807; simp only [List.length_append, u8L_len, List.length_cons, List.length_nil]; omega
          intro c hc
          rw [IntWalk.i64_in _ (by omega)] at hc
          obtain rfl : c = ((k + 1 : Nat) : Int) := by omega
          have he : u8L (34 :: quoteL (s.data.toList.take (k + 1))) = u8L (34 :: quoteL (s.data.toList.take k)) ++ [[.u8 92]] ++ [[.u8 s[k]]] := by rw [hsn, if_pos hq]; simp [u8L]
          refine ⟨g - 1, by omega, k + 1, _, by omega, rfl, ?_⟩
          rw [he]
          exact .own _ _ _ z0 z1
        · have hq : ¬ qtI (s[k].toNat : Int) = true := by unfold qtI; rw [h1, h2]; decide
          refine ⟨k, k1, rfl, ?_⟩
          refine Acc2.app (n := 0) (i := ti5) (es := (u8L (34 :: quoteL (s.data.toList.take k)))) hA (Nat.zero_le _) (List.cons_ne_nil _ _) ?_ ?_ (fun t e tk' q0 q1 q2 q3 => ?_)
          · show (List.length _ + 1) * 1 ≤ _; simp only [List.length_append, u8L_len, List.length_cons, List.length_nil]; omega
          · show List.length _ + 1 ≤ 9223372036854775807; simp only [List.length_append, u8L_len, List.length_cons, List.length_nil]; omega
          intro c hc
          rw [IntWalk.i64_in _ (by omega)] at hc
          obtain rfl : c = ((k + 1 : Nat) : Int) := by omega
          have he : u8L (34 :: quoteL (s.data.toList.take (k + 1))) = u8L (34 :: quoteL (s.data.toList.take k)) ++ [[.u8 s[k]]] := by rw [hsn, if_neg hq]; simp [u8L]
          refine ⟨g - 1, by omega, k + 1, _, by omega, rfl, ?_⟩
          rw [he]
          exact .own _ _ _ q0 q1
    · have hd := of_decide_eq_false hd
      obtain rfl : k = s.size := by omega
      refine Acc2.app (n := 0) (i := ti5) (es := (u8L (34 :: quoteL (s.data.toList.take s.size)))) hA (Nat.zero_le _) (List.cons_ne_nil _ _) ?_ ?_ (fun t e tk' q0 q1 q2 q3 => ?_)
      · show (List.length _ + 1) * 1 ≤ _; simp only [List.length_append, u8L_len, List.length_cons, List.length_nil]; omega
      · show List.length _ + 1 ≤ 9223372036854775807; simp only [List.length_append, u8L_len, List.length_cons, List.length_nil]; omega
      refine ⟨quoteB s, ?_, rfl⟩
      rw [quoteB_l, List.take_of_length_le (by rw [blen]; exact Nat.le_refl _)]
      simp [u8L]
theorem quote5_p (s : ByteArray) (hs : s.size ≤ 1099511627776) : APure Tryz.prog 17 [.s s] (.tup [.s (quoteR s).1, .i (quoteR s).2]) [] := by
  have hmx : maxLen = 9223372036854775807 := rfl
  refine APure.of rfl (ACalls.of_vc T_ok mixed Tryz.func17 rfl Tryz.call17 ?_)
  refine vc_loop [4, 5] (fun g vals st' => ∃ k : Nat, k + g = s.size ∧ vals = [.s ⟨(34 :: quoteL (s.data.toList.take k)).toArray⟩, .i k] ∧ ∀ j (hj : j < s.size), j < k → valI (s[j].toNat : Int) = true) s.size rfl ⟨0, by omega, rfl, fun j _ h => absurd h (by omega)⟩ ?_
  rintro g vals st1 ⟨k, hk, rfl, ha⟩
  have hql := quoteL_len (s.data.toList.take k)
  have hlk : (s.data.toList.take k).length ≤ k := by rw [List.length_take]; omega
  have hsz : (⟨(34 :: quoteL (s.data.toList.take k)).toArray⟩ : ByteArray).size ≤ 2 * k + 1 := by
    show (List.toArray _).size ≤ _
    rw [List.size_toArray, List.length_cons]
    omega
  refine cnd_split (fun hd => ?_) (fun hd => ?_)
  · have hd := of_decide_eq_true hd
    have k1 : k < s.size := by omega
    refine ⟨k, k1, rfl, ?_⟩
    refine .p rfl (value1_p _ (by omega) (by have := s[k].toNat_lt; omega)) ?_
    refine cnd_split (fun hv => ?_) (fun hv => ?_)
    · rw [Bool.not_eq_true'] at hv
      have e : quoteR s = (⟨#[]⟩, 2) := by unfold quoteR; rw [allI_false k1 hv]; rfl
      rw [e]
      rfl
    rw [Bool.not_eq_false'] at hv
    have ha2 : ∀ j (hj : j < s.size), j < k + 1 → valI (s[j].toNat : Int) = true := fun j hj hjk => by
      by_cases e : j = k
      · subst e; exact hv
      · exact ha j hj (by omega)
    have hsn : quoteL (s.data.toList.take (k + 1)) = quoteL (s.data.toList.take k) ++ (if qtI (s[k].toNat : Int) = true then [92, s[k]] else [s[k]]) := by
      rw [List.take_add_one, List.getElem?_eq_getElem (by rw [blen]; exact k1), Option.toList_some, quoteL_snoc, bget s k k1]
    refine ⟨k, k1, rfl, ?_⟩
    refine cnd_split (fun h1 => ?_) (fun h1 => ?_)
    · have hq : qtI (s[k].toNat : Int) = true := by unfold qtI; rw [h1]; rfl
      refine ⟨by show _ + 1 ≤ _; omega, ?_⟩
      intro c hc
      rw [IntWalk.i64_in _ (by omega)] at hc
      obtain rfl : c = ((k + 1 : Nat) : Int) := by omega
      refine ⟨_, rfl, _, rfl, by omega, by omega, ?_⟩
      refine ⟨by rw [app_size, ext1 s k k1]; show _ + 1 + 1 ≤ _; omega, ?_⟩
      intro c hc
      rw [IntWalk.i64_in _ (by omega)] at hc
      obtain rfl : c = ((k + 1 : Nat) : Int) := by omega
      refine ⟨g - 1, by omega, k + 1, by omega, ?_, ha2⟩
      refine congrArg (fun x => [AV.s x, AV.i ((k + 1 : Nat) : Int)]) (inL ?_)
      rw [app_l, app_l, ext1 s k k1]
      show _ = (List.toArray _).toList
      rw [List.toList_toArray, hsn, if_pos hq]
      show (List.toArray _).toList ++ [92] ++ [s[k]] = _
      rw [List.toList_toArray]
      simp
    · refine ⟨k, k1, rfl, ?_⟩
      refine cnd_split (fun h2 => ?_) (fun h2 => ?_)
      · have hq : qtI (s[k].toNat : Int) = true := by unfold qtI; rw [h1, h2]; rfl
        refine ⟨by show _ + 1 ≤ _; omega, ?_⟩
        intro c hc
        rw [IntWalk.i64_in _ (by omega)] at hc
        obtain rfl : c = ((k + 1 : Nat) : Int) := by omega
        refine ⟨_, rfl, _, rfl, by omega, by omega, ?_⟩
        refine ⟨by rw [app_size, ext1 s k k1]; show _ + 1 + 1 ≤ _; omega, ?_⟩
        intro c hc
        rw [IntWalk.i64_in _ (by omega)] at hc
        obtain rfl : c = ((k + 1 : Nat) : Int) := by omega
        refine ⟨g - 1, by omega, k + 1, by omega, ?_, ha2⟩
        refine congrArg (fun x => [AV.s x, AV.i ((k + 1 : Nat) : Int)]) (inL ?_)
        rw [app_l, app_l, ext1 s k k1]
        show _ = (List.toArray _).toList
        rw [List.toList_toArray, hsn, if_pos hq]
        show (List.toArray _).toList ++ [92] ++ [s[k]] = _
        rw [List.toList_toArray]
        simp
      · have hq : ¬ qtI (s[k].toNat : Int) = true := by unfold qtI; rw [h1, h2]; decide
        intro c hc
        rw [IntWalk.i64_in _ (by omega)] at hc
        obtain rfl : c = ((k + 1 : Nat) : Int) := by omega
        refine ⟨_, rfl, _, rfl, by omega, by omega, ?_⟩
        refine ⟨by rw [ext1 s k k1]; show _ + 1 ≤ _; omega, ?_⟩
        intro c hc
        rw [IntWalk.i64_in _ (by omega)] at hc
        obtain rfl : c = ((k + 1 : Nat) : Int) := by omega
        refine ⟨g - 1, by omega, k + 1, by omega, ?_, ha2⟩
        refine congrArg (fun x => [AV.s x, AV.i ((k + 1 : Nat) : Int)]) (inL ?_)
        rw [app_l, ext1 s k k1]
        show _ = (List.toArray _).toList
        rw [List.toList_toArray, hsn, if_neg hq]
        show (List.toArray _).toList ++ [s[k]] = _
        rw [List.toList_toArray]
        rfl
  · have hd := of_decide_eq_false hd
    obtain rfl : k = s.size := by omega
    have e : quoteR s = (quoteB s, 0) := by unfold quoteR; rw [if_pos (allI_true fun j hj => ha j hj hj)]
    rw [e]
    refine ⟨by show _ + 1 ≤ _; omega, ?_⟩
    refine congrArg (fun x => AV.tup [AV.s x, AV.i 0]) (inL ?_)
    rw [app_l, quoteB_l, List.take_of_length_le (by rw [blen]; exact Nat.le_refl _)]
    show (List.toArray _).toList ++ [34] = _
    rw [List.toList_toArray]
    rfl
end Go.Proofs.YtgaidgblihnldaaGreatDoor
