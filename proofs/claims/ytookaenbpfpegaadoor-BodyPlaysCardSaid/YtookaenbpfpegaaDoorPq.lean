/- Field lines read in the document. No statement of its own. -/
import Derived.Test.YtookaenbpfpegaaDoorFp
set_option linter.unusedSimpArgs false
set_option linter.unusedVariables false
set_option maxRecDepth 100000
namespace Go.Proofs.YtookaenbpfpegaaDoor
open Go.RowKit
set_option maxHeartbeats 1000000 in
theorem rparse12_p (s : ByteArray) (hs : s.size ≤ 1000000) : APure Tryd.prog 70 [.s s] (.tup [fldA (parseF s).1, .i (parseF s).2]) [] := by
  have hmx : maxLen = 9223372036854775807 := rfl
  rw [← parse_eq]
  have hZ : parseR s = if crlfB s then ((.empty, .empty), 24)
    else if (s.data.toList.head?.any blkP) = true then ((.empty, .empty), 23)
    else if tw colI s 0 = s.size ∨ tokB (trimB (s.extract 0 (tw colI s 0))) = false then ((.empty, .empty), 21)
    else if (trimB (s.extract 0 (tw colI s 0))).size < tw colI s 0 then ((.empty, .empty), 22)
    else if allI valI (s.extract (tw colI s 0 + 1) s.size) = false then ((.empty, .empty), 25)
    else ((trimB (s.extract 0 (tw colI s 0)), trimB (s.extract (tw colI s 0 + 1) s.size)), 0) := rfl
  generalize parseR s = Z at hZ ⊢
  refine APure.of rfl (ACalls.of_vc T_ok mixed Tryd.func70 rfl Tryd.call70 ?_)
  refine vc_loop [4] (fun g vals st' => ∃ k : Nat, k + g = s.size ∧ vals = [.i k] ∧ st'.heap = [[AV.s ⟨#[]⟩, .s ⟨#[]⟩]] ∧ ∀ j (hj : j < s.size), j < k → ((s[j].toNat : Int) == 13) = false ∧ ((s[j].toNat : Int) == 10) = false) s.size rfl ⟨0, by omega, rfl, rfl, fun j _ h => absurd h (by omega)⟩ ?_
  rintro g vals ⟨H, tk⟩ ⟨k, hk, rfl, hh, hr⟩
  obtain rfl : H = [[AV.s ⟨#[]⟩, .s ⟨#[]⟩]] := hh
  refine cnd_split (fun hd => ?_) (fun hd => ?_)
  · have hd := of_decide_eq_true hd
    have k1 : k < s.size := by omega
    refine ⟨k, k1, rfl, ?_⟩
    refine cnd_split (fun h1 => ?_) (fun h1 => ?_)
    · rw [if_pos (crlf_yes k1 (by rw [h1]; rfl))] at hZ
      subst hZ
      refine ⟨_, rfl, ?_⟩
      refine ⟨_, rfl, ?_⟩
      rfl
    · refine ⟨k, k1, rfl, ?_⟩
      refine cnd_split (fun h2 => ?_) (fun h2 => ?_)
      · rw [if_pos (crlf_yes k1 (by rw [h1, h2]; rfl))] at hZ
        subst hZ
        refine ⟨_, rfl, ?_⟩
        refine ⟨_, rfl, ?_⟩
        rfl
      · skip
        intro c hc
        rw [IntWalk.i64_in _ (by omega)] at hc
        obtain rfl : c = ((k + 1 : Nat) : Int) := by omega
        refine ⟨g - 1, by omega, k + 1, by omega, rfl, rfl, fun j hj hjk => ?_⟩
        by_cases e : j = k
        · subst e; exact ⟨h1, h2⟩
        · exact hr j hj (by omega)
  · have hd := of_decide_eq_false hd
    rw [if_neg (by rw [crlf_no (fun j hj => hr j hj (by omega))]; decide)] at hZ
    refine cnd_split (fun h0 => ?_) (fun h0 => ?_)
    · have h0 := of_decide_eq_true h0
      have z1 : 0 < s.size := by omega
      rw [headAny z1] at hZ
      refine ⟨0, z1, rfl, ?_⟩
      refine .p rfl (blank1_p _) ?_
      refine cnd_split (fun h6 => ?_) (fun h6 => ?_)
      · rw [if_pos (show blkP s[0] = true from h6)] at hZ
        subst hZ
        refine ⟨_, rfl, ?_⟩
        refine ⟨_, rfl, ?_⟩
        rfl
      · rw [if_neg (by show ¬ blkP s[0] = true; rw [show blkP s[0] = false from h6]; decide)] at hZ
        refine vc_loop [5] (fun g vals st' => ∃ n : Nat, n + g = s.size ∧ vals = [.i n] ∧ st'.heap = [[AV.s ⟨#[]⟩, .s ⟨#[]⟩]] ∧ ARel colI s n) s.size rfl ⟨0, by omega, rfl, rfl, fun j _ h => absurd h (by omega)⟩ ?_
        rintro g2 vals ⟨H2, tk2⟩ ⟨n, hn, rfl, hh2, hr2⟩
        obtain rfl : H2 = [[AV.s ⟨#[]⟩, .s ⟨#[]⟩]] := hh2
        refine cnd_split (fun hd2 => ?_) (fun hd2 => ?_)
        · have hd2 := of_decide_eq_true hd2
          have n1 : n < s.size := by omega
          refine ⟨n, n1, rfl, ?_⟩
          refine cnd_split (fun h7 => ?_) (fun h7 => ?_)
          · skip
            intro c hc
            rw [IntWalk.i64_in _ (by omega)] at hc
            obtain rfl : c = ((n + 1 : Nat) : Int) := by omega
            refine ⟨g2 - 1, by omega, n + 1, by omega, rfl, rfl, fun j hj hjk => ?_⟩
            by_cases e : j = n
            · subst e; exact h7
            · exact hr2 j hj (by omega)
          · have hT : tw colI s 0 = n := by
              have := tw_at (q := colI) (s := s) (k := 0) (m := n) (fun i hi _ h => hr2 i hi h) (Nat.zero_le _) (by omega) (fun hj => h7)
              omega
            rw [hT] at hZ
            have hxs : (s.extract 0 n).size = n := by rw [ByteArray.size_extract]; omega
            have q1 := trim6_p (s.extract 0 n) (by omega)
            rw [trimCB] at q1
            have hts := trimB_size (s.extract 0 n)
            obtain ⟨nm, hnm⟩ : ∃ nm, nm = trimB (s.extract 0 n) := ⟨_, rfl⟩
            rw [← hnm] at q1 hZ hts
            have q2 := token1_p nm (by omega)
            obtain ⟨tb, htb⟩ : ∃ tb, tokB nm = tb := ⟨_, rfl⟩
            rw [htb] at q2 hZ
            refine ⟨n, rfl, Nat.zero_le _, by omega, ?_⟩
            refine .p rfl q1 ?_
            refine cnd_split (fun he => ?_) (fun he => ?_)
            · have he := beq_iff_eq.1 he
              rw [if_pos (.inl (by omega))] at hZ
              subst hZ
              refine ⟨_, rfl, ?_⟩
              refine ⟨_, rfl, ?_⟩
              rfl
            have he := beq_eq_false_iff_ne.1 he
            refine .p rfl q2 ?_
            cases tb with
            | false =>
              rw [if_pos (.inr rfl)] at hZ
              subst hZ
              refine ⟨_, rfl, ?_⟩
              refine ⟨_, rfl, ?_⟩
              rfl
            | true =>
            rw [if_neg (fun h => h.elim (fun h => he (by rw [h])) (fun h => by cases h))] at hZ
            refine cnd_split (fun h5 => ?_) (fun h5 => ?_)
            · have h5 := of_decide_eq_true h5
              rw [if_pos (by omega)] at hZ
              subst hZ
              refine ⟨_, rfl, ?_⟩
              refine ⟨_, rfl, ?_⟩
              rfl
            have h5 := of_decide_eq_false h5
            rw [if_neg (by omega)] at hZ
            obtain ⟨x, hx⟩ : ∃ x, x = s.extract (n + 1) s.size := ⟨_, rfl⟩
            have hxx : x.size ≤ s.size := by rw [hx, ByteArray.size_extract]; omega
            rw [← hx] at hZ
            have q3 := values12_p x (by omega)
            have q4 := trim6_p x (by omega)
            rw [trimCB] at q4
            generalize allI valI x = vb at q3 hZ
            generalize trimB x = y at q4 hZ
            intro c hc
            rw [IntWalk.i64_in _ (by omega)] at hc
            obtain rfl : c = ((n + 1 : Nat) : Int) := by omega
            refine ⟨n + 1, rfl, by omega, Nat.le_refl _, ?_⟩
            rw [← hx]
            refine .p rfl q3 ?_
            cases vb with
            | false =>
              rw [if_pos rfl] at hZ
              subst hZ
              refine ⟨_, rfl, ?_⟩
              refine ⟨_, rfl, ?_⟩
              rfl
            | true =>
            rw [if_neg (by decide)] at hZ
            intro c hc
            rw [IntWalk.i64_in _ (by omega)] at hc
            obtain rfl : c = ((n + 1 : Nat) : Int) := by omega
            refine ⟨n + 1, rfl, by omega, Nat.le_refl _, ?_⟩
            rw [← hx]
            refine .p rfl q4 ?_
            subst hZ
            refine ⟨_, rfl, ?_⟩
            refine ⟨_, rfl, ?_⟩
            rfl
        · have hd2 := of_decide_eq_false hd2
          have hT : tw colI s 0 = n := by
            have := tw_at (q := colI) (s := s) (k := 0) (m := n) (fun i hi _ h => hr2 i hi h) (Nat.zero_le _) (by omega) (fun hj => absurd hj (by omega))
            omega
          rw [hT] at hZ
          have hxs : (s.extract 0 n).size = n := by rw [ByteArray.size_extract]; omega
          have q1 := trim6_p (s.extract 0 n) (by omega)
          rw [trimCB] at q1
          have hts := trimB_size (s.extract 0 n)
          obtain ⟨nm, hnm⟩ : ∃ nm, nm = trimB (s.extract 0 n) := ⟨_, rfl⟩
          rw [← hnm] at q1 hZ hts
          have q2 := token1_p nm (by omega)
          obtain ⟨tb, htb⟩ : ∃ tb, tokB nm = tb := ⟨_, rfl⟩
          rw [htb] at q2 hZ
          refine ⟨n, rfl, Nat.zero_le _, by omega, ?_⟩
          refine .p rfl q1 ?_
          refine cnd_split (fun he => ?_) (fun he => ?_)
          · have he := beq_iff_eq.1 he
            rw [if_pos (.inl (by omega))] at hZ
            subst hZ
            refine ⟨_, rfl, ?_⟩
            refine ⟨_, rfl, ?_⟩
            rfl
          have he := beq_eq_false_iff_ne.1 he
          refine .p rfl q2 ?_
          cases tb with
          | false =>
            rw [if_pos (.inr rfl)] at hZ
            subst hZ
            refine ⟨_, rfl, ?_⟩
            refine ⟨_, rfl, ?_⟩
            rfl
          | true =>
          rw [if_neg (fun h => h.elim (fun h => he (by rw [h])) (fun h => by cases h))] at hZ
          refine cnd_split (fun h5 => ?_) (fun h5 => ?_)
          · have h5 := of_decide_eq_true h5
            rw [if_pos (by omega)] at hZ
            subst hZ
            refine ⟨_, rfl, ?_⟩
            refine ⟨_, rfl, ?_⟩
            rfl
          have h5 := of_decide_eq_false h5
          rw [if_neg (by omega)] at hZ
          obtain ⟨x, hx⟩ : ∃ x, x = s.extract (n + 1) s.size := ⟨_, rfl⟩
          have hxx : x.size ≤ s.size := by rw [hx, ByteArray.size_extract]; omega
          rw [← hx] at hZ
          have q3 := values12_p x (by omega)
          have q4 := trim6_p x (by omega)
          rw [trimCB] at q4
          generalize allI valI x = vb at q3 hZ
          generalize trimB x = y at q4 hZ
          intro c hc
          rw [IntWalk.i64_in _ (by omega)] at hc
          obtain rfl : c = ((n + 1 : Nat) : Int) := by omega
          refine ⟨n + 1, rfl, by omega, Nat.le_refl _, ?_⟩
          rw [← hx]
          refine .p rfl q3 ?_
          cases vb with
          | false =>
            rw [if_pos rfl] at hZ
            subst hZ
            refine ⟨_, rfl, ?_⟩
            refine ⟨_, rfl, ?_⟩
            rfl
          | true =>
          rw [if_neg (by decide)] at hZ
          intro c hc
          rw [IntWalk.i64_in _ (by omega)] at hc
          obtain rfl : c = ((n + 1 : Nat) : Int) := by omega
          refine ⟨n + 1, rfl, by omega, Nat.le_refl _, ?_⟩
          rw [← hx]
          refine .p rfl q4 ?_
          subst hZ
          refine ⟨_, rfl, ?_⟩
          refine ⟨_, rfl, ?_⟩
          rfl
    · have h0 := of_decide_eq_false h0
      have e : s.data.toList = [] := List.eq_nil_of_length_eq_zero (by rw [blen]; omega)
      rw [if_neg (by rw [e]; decide)] at hZ
      refine vc_loop [5] (fun g vals st' => ∃ n : Nat, n + g = s.size ∧ vals = [.i n] ∧ st'.heap = [[AV.s ⟨#[]⟩, .s ⟨#[]⟩]] ∧ ARel colI s n) s.size rfl ⟨0, by omega, rfl, rfl, fun j _ h => absurd h (by omega)⟩ ?_
      rintro g2 vals ⟨H2, tk2⟩ ⟨n, hn, rfl, hh2, hr2⟩
      obtain rfl : H2 = [[AV.s ⟨#[]⟩, .s ⟨#[]⟩]] := hh2
      refine cnd_split (fun hd2 => ?_) (fun hd2 => ?_)
      · have hd2 := of_decide_eq_true hd2
        have n1 : n < s.size := by omega
        refine ⟨n, n1, rfl, ?_⟩
        refine cnd_split (fun h7 => ?_) (fun h7 => ?_)
        · skip
          intro c hc
          rw [IntWalk.i64_in _ (by omega)] at hc
          obtain rfl : c = ((n + 1 : Nat) : Int) := by omega
          refine ⟨g2 - 1, by omega, n + 1, by omega, rfl, rfl, fun j hj hjk => ?_⟩
          by_cases e : j = n
          · subst e; exact h7
          · exact hr2 j hj (by omega)
        · have hT : tw colI s 0 = n := by
            have := tw_at (q := colI) (s := s) (k := 0) (m := n) (fun i hi _ h => hr2 i hi h) (Nat.zero_le _) (by omega) (fun hj => h7)
            omega
          rw [hT] at hZ
          have hxs : (s.extract 0 n).size = n := by rw [ByteArray.size_extract]; omega
          have q1 := trim6_p (s.extract 0 n) (by omega)
          rw [trimCB] at q1
          have hts := trimB_size (s.extract 0 n)
          obtain ⟨nm, hnm⟩ : ∃ nm, nm = trimB (s.extract 0 n) := ⟨_, rfl⟩
          rw [← hnm] at q1 hZ hts
          have q2 := token1_p nm (by omega)
          obtain ⟨tb, htb⟩ : ∃ tb, tokB nm = tb := ⟨_, rfl⟩
          rw [htb] at q2 hZ
          refine ⟨n, rfl, Nat.zero_le _, by omega, ?_⟩
          refine .p rfl q1 ?_
          refine cnd_split (fun he => ?_) (fun he => ?_)
          · have he := beq_iff_eq.1 he
            rw [if_pos (.inl (by omega))] at hZ
            subst hZ
            refine ⟨_, rfl, ?_⟩
            refine ⟨_, rfl, ?_⟩
            rfl
          have he := beq_eq_false_iff_ne.1 he
          refine .p rfl q2 ?_
          cases tb with
          | false =>
            rw [if_pos (.inr rfl)] at hZ
            subst hZ
            refine ⟨_, rfl, ?_⟩
            refine ⟨_, rfl, ?_⟩
            rfl
          | true =>
          rw [if_neg (fun h => h.elim (fun h => he (by rw [h])) (fun h => by cases h))] at hZ
          refine cnd_split (fun h5 => ?_) (fun h5 => ?_)
          · have h5 := of_decide_eq_true h5
            rw [if_pos (by omega)] at hZ
            subst hZ
            refine ⟨_, rfl, ?_⟩
            refine ⟨_, rfl, ?_⟩
            rfl
          have h5 := of_decide_eq_false h5
          rw [if_neg (by omega)] at hZ
          obtain ⟨x, hx⟩ : ∃ x, x = s.extract (n + 1) s.size := ⟨_, rfl⟩
          have hxx : x.size ≤ s.size := by rw [hx, ByteArray.size_extract]; omega
          rw [← hx] at hZ
          have q3 := values12_p x (by omega)
          have q4 := trim6_p x (by omega)
          rw [trimCB] at q4
          generalize allI valI x = vb at q3 hZ
          generalize trimB x = y at q4 hZ
          intro c hc
          rw [IntWalk.i64_in _ (by omega)] at hc
          obtain rfl : c = ((n + 1 : Nat) : Int) := by omega
          refine ⟨n + 1, rfl, by omega, Nat.le_refl _, ?_⟩
          rw [← hx]
          refine .p rfl q3 ?_
          cases vb with
          | false =>
            rw [if_pos rfl] at hZ
            subst hZ
            refine ⟨_, rfl, ?_⟩
            refine ⟨_, rfl, ?_⟩
            rfl
          | true =>
          rw [if_neg (by decide)] at hZ
          intro c hc
          rw [IntWalk.i64_in _ (by omega)] at hc
          obtain rfl : c = ((n + 1 : Nat) : Int) := by omega
          refine ⟨n + 1, rfl, by omega, Nat.le_refl _, ?_⟩
          rw [← hx]
          refine .p rfl q4 ?_
          subst hZ
          refine ⟨_, rfl, ?_⟩
          refine ⟨_, rfl, ?_⟩
          rfl
      · have hd2 := of_decide_eq_false hd2
        have hT : tw colI s 0 = n := by
          have := tw_at (q := colI) (s := s) (k := 0) (m := n) (fun i hi _ h => hr2 i hi h) (Nat.zero_le _) (by omega) (fun hj => absurd hj (by omega))
          omega
        rw [hT] at hZ
        have hxs : (s.extract 0 n).size = n := by rw [ByteArray.size_extract]; omega
        have q1 := trim6_p (s.extract 0 n) (by omega)
        rw [trimCB] at q1
        have hts := trimB_size (s.extract 0 n)
        obtain ⟨nm, hnm⟩ : ∃ nm, nm = trimB (s.extract 0 n) := ⟨_, rfl⟩
        rw [← hnm] at q1 hZ hts
        have q2 := token1_p nm (by omega)
        obtain ⟨tb, htb⟩ : ∃ tb, tokB nm = tb := ⟨_, rfl⟩
        rw [htb] at q2 hZ
        refine ⟨n, rfl, Nat.zero_le _, by omega, ?_⟩
        refine .p rfl q1 ?_
        refine cnd_split (fun he => ?_) (fun he => ?_)
        · have he := beq_iff_eq.1 he
          rw [if_pos (.inl (by omega))] at hZ
          subst hZ
          refine ⟨_, rfl, ?_⟩
          refine ⟨_, rfl, ?_⟩
          rfl
        have he := beq_eq_false_iff_ne.1 he
        refine .p rfl q2 ?_
        cases tb with
        | false =>
          rw [if_pos (.inr rfl)] at hZ
          subst hZ
          refine ⟨_, rfl, ?_⟩
          refine ⟨_, rfl, ?_⟩
          rfl
        | true =>
        rw [if_neg (fun h => h.elim (fun h => he (by rw [h])) (fun h => by cases h))] at hZ
        refine cnd_split (fun h5 => ?_) (fun h5 => ?_)
        · have h5 := of_decide_eq_true h5
          rw [if_pos (by omega)] at hZ
          subst hZ
          refine ⟨_, rfl, ?_⟩
          refine ⟨_, rfl, ?_⟩
          rfl
        have h5 := of_decide_eq_false h5
        rw [if_neg (by omega)] at hZ
        obtain ⟨x, hx⟩ : ∃ x, x = s.extract (n + 1) s.size := ⟨_, rfl⟩
        have hxx : x.size ≤ s.size := by rw [hx, ByteArray.size_extract]; omega
        rw [← hx] at hZ
        have q3 := values12_p x (by omega)
        have q4 := trim6_p x (by omega)
        rw [trimCB] at q4
        generalize allI valI x = vb at q3 hZ
        generalize trimB x = y at q4 hZ
        intro c hc
        rw [IntWalk.i64_in _ (by omega)] at hc
        obtain rfl : c = ((n + 1 : Nat) : Int) := by omega
        refine ⟨n + 1, rfl, by omega, Nat.le_refl _, ?_⟩
        rw [← hx]
        refine .p rfl q3 ?_
        cases vb with
        | false =>
          rw [if_pos rfl] at hZ
          subst hZ
          refine ⟨_, rfl, ?_⟩
          refine ⟨_, rfl, ?_⟩
          rfl
        | true =>
        rw [if_neg (by decide)] at hZ
        intro c hc
        rw [IntWalk.i64_in _ (by omega)] at hc
        obtain rfl : c = ((n + 1 : Nat) : Int) := by omega
        refine ⟨n + 1, rfl, by omega, Nat.le_refl _, ?_⟩
        rw [← hx]
        refine .p rfl q4 ?_
        subst hZ
        refine ⟨_, rfl, ?_⟩
        refine ⟨_, rfl, ?_⟩
        rfl
end Go.Proofs.YtookaenbpfpegaaDoor
