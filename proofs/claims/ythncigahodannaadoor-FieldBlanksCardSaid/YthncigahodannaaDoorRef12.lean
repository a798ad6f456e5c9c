/- The reference's field lines. -/
import Derived.Test.YthncigahodannaaDoorField3
namespace Go.Proofs.YthncigahodannaaDoor
open Go.RowKit

def colI (n : Int) : Bool := n != 58

def parseR (s : ByteArray) : Fld × Int :=
  if crlfB s then ((.empty, .empty), 24)
  else if (s.data.toList.head?.any blkP) = true then ((.empty, .empty), 23)
  else
    let n := tw colI s 0
    let nm := trimB (s.extract 0 n)
    if n = s.size ∨ tokB nm = false then ((.empty, .empty), 21)
    else if nm.size < n then ((.empty, .empty), 22)
    else if allI valI (s.extract (n + 1) s.size) = false then ((.empty, .empty), 25)
    else ((nm, trimB (s.extract (n + 1) s.size)), 0)

theorem crlf_yes {s : ByteArray} {k : Nat} (hk : k < s.size) (h : ((s[k].toNat : Int) == 13 || (s[k].toNat : Int) == 10) = true) : crlfB s = true := by
  unfold crlfB
  rw [List.any_eq_true]
  refine ⟨s[k], List.mem_iff_getElem.2 ⟨k, by rw [blen]; exact hk, rfl⟩, ?_⟩
  simp only [Bool.or_eq_true, beq_iff_eq] at h ⊢
  exact h.imp (fun h => UInt8.toNat_inj.1 (by show _ = 13; omega)) (fun h => UInt8.toNat_inj.1 (by show _ = 10; omega))
theorem crlf_no {s : ByteArray} (h : ∀ k (hk : k < s.size), ((s[k].toNat : Int) == 13) = false ∧ ((s[k].toNat : Int) == 10) = false) : crlfB s = false := by
  unfold crlfB
  rw [List.any_eq_false]
  intro x hx
  obtain ⟨k, hk, rfl⟩ := List.getElem_of_mem hx
  obtain ⟨h1, h2⟩ := h k (by rw [← blen]; exact hk)
  rw [beq_eq_false_iff_ne] at h1 h2
  simp only [Bool.or_eq_true, beq_iff_eq, not_or]
  constructor
  · intro e; apply h1; show ((s.data.toList[k].toNat : Nat) : Int) = 13; rw [e]; rfl
  · intro e; apply h2; show ((s.data.toList[k].toNat : Nat) : Int) = 10; rw [e]; rfl

theorem headAny {s : ByteArray} (h : 0 < s.size) : s.data.toList.head?.any blkP = blkP s[0] := by
  rw [headB s h]; rfl
theorem trimB_size (s : ByteArray) : (trimB s).size ≤ s.size := by
  rw [trimB_eq, ← blen s]
  show (rt blkP (s.data.toList.dropWhile blkP)).toArray.size ≤ _
  rw [List.size_toArray]
  unfold rt
  rw [List.length_reverse]
  have h1 := (List.dropWhile_sublist blkP (l := (s.data.toList.dropWhile blkP).reverse)).length_le
  have h2 := (List.dropWhile_sublist blkP (l := s.data.toList)).length_le
  rw [List.length_reverse] at h1
  omega


set_option maxHeartbeats 2000000 in
theorem r12Parse_any (s : ByteArray) (hs : s.size ≤ 1000000) (w : World) :
    Calls Tryd.prog 9 #[.string s] w fun e w' => e = .returned (.tuple #[.agg #[.string (parseR s).1.1, .string (parseR s).1.2], .int .i64 (parseR s).2]) ∧ Chg w w' (fun _ => False) := by
  go_enter Tryd.func9, Tryd.ntmps9
  go_wp2_with fail
  go_loopg [4] s.size (fun g s4 wr => w.alloc (.cells #[.string .empty, .string .empty] 25) = wr ∧ ∃ k : Nat, k + g = s.size ∧ s4 = .int .i64 k ∧ ∀ j (hj : j < s.size), j < k → ((s[j].toNat : Int) == 13) = false ∧ ((s[j].toNat : Int) == 10) = false)
  case atStart => exact ⟨rfl, 0, by omega, rfl, fun j _ h => absurd h (by omega)⟩
  case round =>
    obtain ⟨rfl, k, hk, rfl, hr⟩ := hrel
    have HR := Lib.hid hr
    clear hr
    by_cases hlt : k < s.size
    · cases h13 : ((s[k].toNat : Int) == 13)
      · cases h10 : ((s[k].toNat : Int) == 10)
        · go_wp2_with fail
          go_roundg (gk - 1)
          case measure => omega
          case rel =>
            refine ⟨rfl, k + 1, by omega, by go_num, fun j hj hjk => ?_⟩
            by_cases e : j = k
            · subst e; exact ⟨h13, h10⟩
            · exact HR.out j hj (by omega)
        · have HP : Hid (parseR s = ((.empty, .empty), 24)) := by unfold parseR; rw [if_pos (crlf_yes hlt (by rw [h13, h10]; rfl))]; rfl
          go_wp2_with fail
          exact bodyPost_ret (v := .tuple #[.agg #[.string .empty, .string .empty], .int .i64 24]) (by simp [results, Tryd.results9, go_sem]; try rfl) rfl ⟨by rw [HP.out], by repeat (first | exact Chg.refl _ _ | assumption | refine Chg.setCell ?_ (.inl (by first | (simp; done) | (simp; omega) | omega)) _ | refine Chg.drewN ?_ _ | refine Chg.drew ?_ | refine Chg.alloc ?_ _)⟩
      · have HP : Hid (parseR s = ((.empty, .empty), 24)) := by unfold parseR; rw [if_pos (crlf_yes hlt (by rw [h13]; rfl))]; rfl
        go_wp2_with fail
        exact bodyPost_ret (v := .tuple #[.agg #[.string .empty, .string .empty], .int .i64 24]) (by simp [results, Tryd.results9, go_sem]; try rfl) rfl ⟨by rw [HP.out], by repeat (first | exact Chg.refl _ _ | assumption | refine Chg.setCell ?_ (.inl (by first | (simp; done) | (simp; omega) | omega)) _ | refine Chg.drewN ?_ _ | refine Chg.drew ?_ | refine Chg.alloc ?_ _)⟩
    · have HC := Lib.hid (crlf_no (fun j hj => HR.out j hj (by omega)))
      clear HR hk
      by_cases h0 : 0 < s.size
      · have hB := fun W => r1Blank_any (s[0].toNat : Int) W
        cases hb : blkI (s[0].toNat : Int)
        · rw [hb] at hB
          have HH : Hid (s.data.toList.head?.any blkP = false) := by rw [headAny h0]; exact hb
          clear hb
          go_wp2_with fail
          refine (hB _).mono ?_; rintro e w1 ⟨rfl, rfl⟩
          go_wp2_with fail
          go_loopg [5] s.size (fun g s5 wr => w.alloc (.cells #[.string .empty, .string .empty] 25) = wr ∧ ∃ m : Nat, m + g = s.size ∧ s5 = .int .i64 m ∧ ∀ j (hj : j < s.size), 0 ≤ j → j < m → colI (s[j].toNat : Int) = true)
          case atStart => exact ⟨rfl, 0, by omega, rfl, fun j _ _ h => absurd h (by omega)⟩
          case round =>
            obtain ⟨rfl, m, hm, rfl, hr⟩ := hrel
            have HR := Lib.hid hr
            clear hr
            have hT := fun W => r6Trim_any (s.extract 0 m) (by rw [ext_size _ _ _ (by omega)]; unfold maxLen; omega) W
            have hns : (trimB (s.extract 0 m)).size ≤ m := by
              have := trimB_size (s.extract 0 m)
              rw [ext_size _ _ _ (by omega)] at this
              omega
            have hK := fun W => r1Token_any (trimB (s.extract 0 m)) (by unfold maxLen; omega) W
            by_cases hlt : m < s.size
            · cases hq : colI (s[m].toNat : Int)
              · have ht := tw_at HR.out (by omega) (by omega) (fun _ => hq)
                have HT : Hid (tw colI s 0 = m) := by rw [Nat.zero_add] at ht; exact ht
                have hV := fun W => r12values_any (s.extract (m + 1) s.size) (by rw [ext_size _ _ _ (Nat.le_refl _)]; unfold maxLen; omega) W
                have hT2 := fun W => r6Trim_any (s.extract (m + 1) s.size) (by rw [ext_size _ _ _ (Nat.le_refl _)]; unfold maxLen; omega) W
                have hq2 : ((s[m].toNat : Int) != 58) = false := hq
                have hq3 : ((m : Int) == (s.size : Int)) = false := by rw [beq_eq_false_iff_ne]; omega
                have hP0 : parseR s = if tokB (trimB (s.extract 0 m)) = false then ((.empty, .empty), 21) else if (trimB (s.extract 0 m)).size < m then ((.empty, .empty), 22)
                    else if allI valI (s.extract (m + 1) s.size) = false then ((.empty, .empty), 25) else ((trimB (s.extract 0 m), trimB (s.extract (m + 1) s.size)), 0) := by
                  unfold parseR
                  rw [if_neg (by rw [HC.out]; decide), if_neg (by rw [HH.out]; decide), HT.out]
                  simp only [show ¬ (m = s.size) from by omega, false_or]
                have HP0 := Lib.hid hP0
                clear hP0 ht hq
                generalize trimB (s.extract 0 m) = nm at *
                generalize trimB (s.extract (m + 1) s.size) = vl at *
                cases htk : tokB nm
                · rw [htk] at hK
                  have HP : Hid (parseR s = ((.empty, .empty), 21)) := by rw [HP0.out, if_pos htk]; rfl
                  clear htk
                  go_wp2_with fail
                  refine (hT _).mono ?_; rintro e w1 ⟨rfl, rfl⟩
                  go_wp2_with fail
                  refine (hK _).mono ?_; rintro e w1 ⟨rfl, rfl⟩
                  go_wp2_with fail
                  exact bodyPost_ret (v := .tuple #[.agg #[.string .empty, .string .empty], .int .i64 21]) (by simp [results, Tryd.results9, go_sem]; try rfl) rfl ⟨by rw [HP.out], by repeat (first | exact Chg.refl _ _ | assumption | refine Chg.setCell ?_ (.inl (by first | (simp; done) | (simp; omega) | omega)) _ | refine Chg.drewN ?_ _ | refine Chg.drew ?_ | refine Chg.alloc ?_ _)⟩
                · rw [htk] at hK
                  by_cases hsz : nm.size < m
                  · have HP : Hid (parseR s = ((.empty, .empty), 22)) := by rw [HP0.out, if_neg (by rw [htk]; decide), if_pos hsz]; rfl
                    clear htk
                    go_wp2_with fail
                    refine (hT _).mono ?_; rintro e w1 ⟨rfl, rfl⟩
                    go_wp2_with fail
                    refine (hK _).mono ?_; rintro e w1 ⟨rfl, rfl⟩
                    go_wp2_with fail
                    exact bodyPost_ret (v := .tuple #[.agg #[.string .empty, .string .empty], .int .i64 22]) (by simp [results, Tryd.results9, go_sem]; try rfl) rfl ⟨by rw [HP.out], by repeat (first | exact Chg.refl _ _ | assumption | refine Chg.setCell ?_ (.inl (by first | (simp; done) | (simp; omega) | omega)) _ | refine Chg.drewN ?_ _ | refine Chg.drew ?_ | refine Chg.alloc ?_ _)⟩
                  · cases hal : allI valI (s.extract (m + 1) s.size)
                    · rw [hal] at hV
                      have HP : Hid (parseR s = ((.empty, .empty), 25)) := by rw [HP0.out, if_neg (by rw [htk]; decide), if_neg hsz, if_pos hal]; rfl
                      clear htk hal
                      go_wp2_with fail
                      refine (hT _).mono ?_; rintro e w1 ⟨rfl, rfl⟩
                      go_wp2_with fail
                      refine (hK _).mono ?_; rintro e w1 ⟨rfl, rfl⟩
                      go_wp2_with fail
                      refine (hV _).mono ?_; rintro e w1 ⟨rfl, rfl⟩
                      go_wp2_with fail
                      exact bodyPost_ret (v := .tuple #[.agg #[.string .empty, .string .empty], .int .i64 25]) (by simp [results, Tryd.results9, go_sem]; try rfl) rfl ⟨by rw [HP.out], by repeat (first | exact Chg.refl _ _ | assumption | refine Chg.setCell ?_ (.inl (by first | (simp; done) | (simp; omega) | omega)) _ | refine Chg.drewN ?_ _ | refine Chg.drew ?_ | refine Chg.alloc ?_ _)⟩
                    · rw [hal] at hV
                      have HP : Hid (parseR s = ((nm, vl), 0)) := by rw [HP0.out, if_neg (by rw [htk]; decide), if_neg hsz, if_neg (by rw [hal]; decide)]; rfl
                      clear htk hal
                      go_wp2_with fail
                      refine (hT _).mono ?_; rintro e w1 ⟨rfl, rfl⟩
                      go_wp2_with fail
                      refine (hK _).mono ?_; rintro e w1 ⟨rfl, rfl⟩
                      go_wp2_with fail
                      refine (hV _).mono ?_; rintro e w1 ⟨rfl, rfl⟩
                      go_wp2_with fail
                      refine (hT2 _).mono ?_; rintro e w1 ⟨rfl, rfl⟩
                      go_wp2_with fail
                      exact bodyPost_ret (v := .tuple #[.agg #[.string nm, .string vl], .int .i64 0]) (by simp [results, Tryd.results9, go_sem]; try rfl) rfl ⟨by rw [HP.out], by repeat (first | exact Chg.refl _ _ | assumption | refine Chg.setCell ?_ (.inl (by first | (simp; done) | (simp; omega) | omega)) _ | refine Chg.drewN ?_ _ | refine Chg.drew ?_ | refine Chg.alloc ?_ _)⟩
              · have HQ := Lib.hid hq
                have hq2 : ((s[m].toNat : Int) != 58) = true := hq
                clear hq hT hK hns
                go_wp2_with fail
                go_roundg (gk - 1)
                case measure => omega
                case rel =>
                  refine ⟨rfl, m + 1, by omega, by go_num, fun j hj h0 hjk => ?_⟩
                  by_cases e : j = m
                  · subst e; exact HQ.out
                  · exact HR.out j hj h0 (by omega)
            · have ht := tw_at HR.out (by omega) (by omega) (fun h => absurd h hlt)
              have hq3 : ((m : Int) == (s.size : Int)) = true := by rw [beq_iff_eq]; omega
              have HP : Hid (parseR s = ((.empty, .empty), 21)) := by
                unfold parseR
                rw [Nat.zero_add] at ht
                rw [if_neg (by rw [HC.out]; decide), if_neg (by rw [HH.out]; decide), ht]
                rw [if_pos (.inl (by omega))]
                rfl
              clear ht
              go_wp2_with fail
              refine (hT _).mono ?_; rintro e w1 ⟨rfl, rfl⟩
              go_wp2_with fail
              exact bodyPost_ret (v := .tuple #[.agg #[.string .empty, .string .empty], .int .i64 21]) (by simp [results, Tryd.results9, go_sem]; try rfl) rfl ⟨by rw [HP.out], by repeat (first | exact Chg.refl _ _ | assumption | refine Chg.setCell ?_ (.inl (by first | (simp; done) | (simp; omega) | omega)) _ | refine Chg.drewN ?_ _ | refine Chg.drew ?_ | refine Chg.alloc ?_ _)⟩
        · rw [hb] at hB
          have HP : Hid (parseR s = ((.empty, .empty), 23)) := by
            unfold parseR
            rw [if_neg (by rw [HC.out]; decide), if_pos (by rw [headAny h0]; exact hb)]
            rfl
          clear hb
          go_wp2_with fail
          refine (hB _).mono ?_; rintro e w1 ⟨rfl, rfl⟩
          go_wp2_with fail
          exact bodyPost_ret (v := .tuple #[.agg #[.string .empty, .string .empty], .int .i64 23]) (by simp [results, Tryd.results9, go_sem]; try rfl) rfl ⟨by rw [HP.out], by repeat (first | exact Chg.refl _ _ | assumption | refine Chg.setCell ?_ (.inl (by first | (simp; done) | (simp; omega) | omega)) _ | refine Chg.drewN ?_ _ | refine Chg.drew ?_ | refine Chg.alloc ?_ _)⟩
      · have hl := blen s
        have hnil : s.data.toList = [] := List.eq_nil_of_length_eq_zero (by omega)
        have h00 : s.size = 0 := by omega
        have HP : Hid (parseR s = ((.empty, .empty), 21)) := by
          unfold parseR
          rw [if_neg (by rw [HC.out]; decide), if_neg (by rw [hnil]; decide)]
          rw [if_pos (.inl (by unfold tw; rw [hnil, h00]; rfl))]
          rfl
        have hT := fun W => r6Trim_any .empty (by decide) W
        have hq3 : ((0 : Int) == (s.size : Int)) = true := by rw [beq_iff_eq]; omega
        clear hl hnil h00
        go_wp2_with fail
        go_loopg [5] 0 (fun g s5 wr => w.alloc (.cells #[.string .empty, .string .empty] 25) = wr ∧ s5 = .int .i64 0)
        case atStart => exact ⟨rfl, rfl⟩
        case round =>
          obtain ⟨rfl, rfl⟩ := hrel
          go_wp2_with fail
          refine (hT _).mono ?_; rintro e w1 ⟨rfl, rfl⟩
          go_wp2_with fail
          exact bodyPost_ret (v := .tuple #[.agg #[.string .empty, .string .empty], .int .i64 21]) (by simp [results, Tryd.results9, go_sem]; try rfl) rfl ⟨by rw [HP.out], by repeat (first | exact Chg.refl _ _ | assumption | refine Chg.setCell ?_ (.inl (by first | (simp; done) | (simp; omega) | omega)) _ | refine Chg.drewN ?_ _ | refine Chg.drew ?_ | refine Chg.alloc ?_ _)⟩
end Go.Proofs.YthncigahodannaaDoor
