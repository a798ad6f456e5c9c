/- A body of any frame, in the document. No statement of its own. -/
import Derived.Test.YtookaenbpfpegaaDoorPt
set_option linter.unusedSimpArgs false
set_option linter.unusedVariables false
set_option maxRecDepth 100000
namespace Go.Proofs.YtookaenbpfpegaaDoor
open Go.RowKit
def fateA (Z : Int × Int × ByteArray × List Fld × Int) : AV := .agg [.i Z.1, .i Z.2.1, .s Z.2.2.1, .sl .no 2 (fldL Z.2.2.2.1), .i Z.2.2.2.2]
/-- what is left of a chunk's end: at 0 both bytes, at 1 one, at 2 none -/
def crD (d : Dc) (j : Nat) : Dc := if j < 2 then { d with a := 2, left := 2 - j } else { d with a := 0, left := 0 }
theorem crD_step {L : Nat} {d : Dc} {j : Nat} (hj : j < 2) (b : UInt8) (r : List UInt8) : runD L (crD d j) (b :: r) = if b = (if j = 0 then 13 else 10) then (runD L (crD d (j + 1)) r).more 1 [] else ⟨1, [], false, 31, (crD d j).shut⟩ := by
  have ha : (crD d j).a = 2 := by unfold crD; rw [if_pos hj]
  have hl : (crD d j).left = 2 - j := by unfold crD; rw [if_pos hj]
  have he : ∀ x, (if (crD d j).left = 1 then (10 : UInt8) else 13) = x → x = if j = 0 then 13 else 10 := fun x h => by
    rw [← h, hl]
    obtain rfl | rfl : j = 0 ∨ j = 1 := by omega
    · rfl
    · rfl
  have he := he _ rfl
  by_cases hb : b = (if j = 0 then 13 else 10)
  · have hs : stepD L (crD d j) b = (crD d (j + 1), [], false, 0) := by
      unfold stepD
      rw [if_neg (by omega), if_pos ha, he, if_neg (fun h => h hb)]
      obtain rfl | rfl : j = 0 ∨ j = 1 := by omega
      · rfl
      · rfl
    rw [runD_go hs, if_pos hb]
  · have hs : stepD L (crD d j) b = (crD d j, [], false, 31) := by
      unfold stepD
      rw [if_neg (by omega), if_pos ha, he, if_pos hb]
    rw [runD_stop hs (.inr (show (31 : Int) ≠ 0 by decide)), if_neg hb]
theorem more_fin {r : Rs} {k : Nat} {o : List UInt8} (h : r.dn = true ∨ r.e ≠ 0) : (r.more k o).fate = (((r.n + k : Nat) : Int), r.e, toB (o ++ r.o), r.d.tr, 0) := if_pos h
theorem more_not {r : Rs} {k : Nat} {o : List UInt8} (h : ¬ (r.dn = true ∨ r.e ≠ 0)) : (r.more k o).fate = ((0 : Int), (0 : Int), toB (o ++ r.o), r.d.tr, (r.d.line.length : Int)) := if_neg h
section
attribute [local irreducible] vcApp
set_option maxHeartbeats 2000000 in
theorem of19_p (s : ByteArray) (L : Nat) (hsz : s.size ≤ 1000000) (hL : L ≤ 65536) :
    APure Tryd.prog 35 [.i L, .s s] (fateA (runD L Dc.new s.data.toList).fate) [] := by
  have hmx : maxLen = 9223372036854775807 := rfl
  obtain ⟨Z, hZ⟩ : ∃ Z, (runD L Dc.new s.data.toList).fate = Z := ⟨_, rfl⟩
  rw [hZ]
  refine ACalls.toPureA rfl ?_
  refine ACalls.of_vc T_ok mixed Tryd.func35 rfl Tryd.call35 ?_
  refine ⟨_, rfl, ?_⟩
  refine vc_loop [7, 6] (fun g vals st' => ∃ (i sum : Nat) (d : Dc) (acc : List UInt8), i + g = s.size ∧ vals = [.i sum, .i i] ∧ st'.heap[1]? = some [.i 0, .i 0, .s (toB acc), .nilS, .i 0] ∧ st'.heap[0]? = some [.i 0, .i 0, .s ⟨#[]⟩, .nilS, .i 0] ∧ d.a = 0 ∧ d.line = [] ∧ d.sum = sum ∧ sum ≤ 1099511627776 ∧ d.spent = 0 ∧ d.tr = [] ∧ acc.length ≤ i ∧ ((runD L d (s.data.toList.drop i)).more i acc).fate = Z) s.size rfl ⟨0, 0, Dc.new, [], by omega, rfl, rfl, rfl, rfl, rfl, rfl, Nat.zero_le _, rfl, rfl, Nat.le_refl _, by rw [List.drop_zero, Rs.more_zero]; exact hZ⟩ ?_
  rintro g vals st1 ⟨i, sum, d, acc, hg, rfl, h1, h0, ha, hln, hsum, hsm, hsp, htr, hacc, hf⟩
  have q1 := read19_p s i 0 (-1) none hsz (by omega) (by omega) (by omega) (.inl ⟨by decide, rfl⟩)
  have hrun := line_run (L := L) (d := d) (.inl ha) hln (by omega) (s.data.toList.drop i)
  have hlim : limD L d = none := by unfold limD; rw [if_neg (by omega)]
  rw [hlim] at hrun
  obtain ⟨W, hW⟩ : ∃ W, readW none 0 false (s.data.toList.drop i) = W := ⟨_, rfl⟩
  rw [hW] at q1 hrun
  obtain ⟨WN, WB, WE⟩ := W
  dsimp only at q1
  have hl0 := lt_of h0
  have hl1 := lt_of h1
  have k0 := st_ne (m := st1.heap.length) (x := [.i WN, .i WB, .i WE]) (by omega) (ap (x := [.i 0, .i 0, .i 0]) h0)
  have k1 := st_ne (m := st1.heap.length) (x := [.i WN, .i WB, .i WE]) (by omega) (ap (x := [.i 0, .i 0, .i 0]) h1)
  have kb := last_upd st1.heap [.i 0, .i 0, .i 0] [.i WN, .i WB, .i WE]
  have hbl := blen s
  have hdl : (s.data.toList.drop i).length = s.size - i := by rw [List.length_drop, hbl]
  have n10 : (1 : Nat) ≠ 0 := by decide
  have n1l : (1 : Nat) ≠ st1.heap.length := by omega
  refine .p rfl q1 ?_
  refine ⟨_, last_at _ _, ?_⟩
  refine ⟨_, kb, ?_⟩
  rcases hrun with ⟨B, E, X, hw, hB0, hB1, hE, hr, _, hXt⟩ | ⟨hw, hr⟩ | ⟨N, hw, hN2, hN1, hr⟩
  · cases hw
    have hfz : Z = (((i + WB : Nat) : Int), (WE : Int), toB acc, [], 0) := by
      rw [← hf, hr, more_fin (.inr (by show (WE : Int) ≠ 0; omega))]
      dsimp only
      rw [hXt, htr, List.append_nil, Nat.add_comm]
    subst hfz
    refine cnd_split (fun _ => ?_) (fun h => absurd (of_decide_eq_false h) (by omega))
    refine ⟨_, kb, ?_⟩
    intro c hc
    rw [IntWalk.i64_in _ (by omega)] at hc
    obtain rfl : c = ((i + WB : Nat) : Int) := by omega
    refine ⟨_, k1, ?_⟩
    refine ⟨_, st_ne n1l kb, ?_⟩
    refine ⟨_, st_eq k1, ?_⟩
    refine ⟨_, st_eq (st_eq k1), ?_⟩
    refine ⟨_, st_ne n10 (st_ne n10 k0), ?_⟩
    refine ⟨_, st_eq (st_ne n10 (st_ne n10 k0)), ?_⟩
    refine ⟨_, rfl, .inl ⟨rfl, rfl⟩, .inl ⟨rfl, rfl⟩, .inl ⟨rfl, rfl⟩, .inr ⟨rfl, 2, rfl⟩, .inl ⟨rfl, rfl⟩, trivial⟩
  · cases hw
    have hfz : Z = (0, 0, toB acc, [], ((s.size - i : Nat) : Int)) := by
      rw [← hf, hr, more_not noFin]
      have e9 : (d.put (s.data.toList.drop i)).line = d.line ++ s.data.toList.drop i := rfl
      have e8 : (d.put (s.data.toList.drop i)).tr = d.tr := rfl
      dsimp only
      rw [e9, e8, hln, List.nil_append, List.length_drop, hbl, htr, List.append_nil]
    subst hfz
    refine ⟨_, kb, ?_⟩
    intro c hc
    rw [IntWalk.i64_in _ (by omega)] at hc
    obtain rfl : c = ((s.size - i : Nat) : Int) := by omega
    refine ⟨_, k1, ?_⟩
    refine ⟨_, st_eq k1, ?_⟩
    refine ⟨_, st_ne n10 k0, ?_⟩
    refine ⟨_, st_eq (st_ne n10 k0), ?_⟩
    refine ⟨_, rfl, .inl ⟨rfl, rfl⟩, .inl ⟨rfl, rfl⟩, .inl ⟨rfl, rfl⟩, .inr ⟨rfl, 2, rfl⟩, .inl ⟨rfl, rfl⟩, trivial⟩
  · cases hw
    refine ⟨_, kb, ?_⟩
    refine cnd_split (fun h => absurd (beq_iff_eq.1 h) (by omega)) (fun _ => ?_)
    have hN3 : WN + i ≤ s.size := by omega
    refine ⟨_, kb, ?_⟩
    intro c hc
    rw [IntWalk.i64_in _ (by omega)] at hc
    obtain rfl : c = ((i + WN : Nat) : Int) := by omega
    intro c hc
    rw [IntWalk.i64_in _ (by omega)] at hc
    obtain rfl : c = ((i + WN - 2 : Nat) : Int) := by omega
    refine ⟨i + WN - 2, rfl, i, rfl, by omega, by omega, ?_⟩
    have hxl : (s.extract i (i + WN - 2)) = toB ((s.data.toList.drop i).take (WN - 2)) := by
      apply toInj
      rw [toB_l, extB, List.drop_take, show i + WN - 2 - i = WN - 2 by omega]
    rw [hxl]
    obtain ⟨sl, hsl⟩ : ∃ sl, sl = toB ((s.data.toList.drop i).take (WN - 2)) := ⟨_, rfl⟩
    have hslz : sl.size ≤ 1000000 := by rw [hsl, toB_size, List.length_take]; omega
    rw [← hsl] at hr ⊢
    have q2 := r18parse_p sl (by omega)
    have hbn := parseC_bnd sl
    have hmb : mostB = 1099511627776 := rfl
    have hen : endD (d.next WN) sl = ((sizeD (d.next WN) sl).1, false, (sizeD (d.next WN) sl).2) := if_pos ha
    have hs2 : (d.next WN).spent = 0 := by show (if d.a = 3 then _ else d.spent) = 0; rw [if_neg (by omega), hsp]
    have htr2 : (d.next WN).tr = [] := htr
    have hsu2 : (d.next WN).sum = sum := hsum
    have hli2 : (d.next WN).line = [] := rfl
    have ha2 : (d.next WN).a = 0 := ha
    generalize d.next WN = d2 at hr hen hs2 htr2 hsu2 hli2 ha2
    obtain ⟨P, hP⟩ : ∃ P, parseC sl = P := ⟨_, rfl⟩
    rw [hP] at q2 hbn
    obtain ⟨pn, pl, pe⟩ := P
    dsimp only at hbn q2 hr
    refine .p rfl q2 ?_
    refine ⟨_, kb, ?_⟩
    intro c hc
    rw [IntWalk.i64_in _ (by omega)] at hc
    obtain rfl : c = ((i + WN : Nat) : Int) := by omega
    rw [hen] at hr
    have fin : ∀ e : Int, e ≠ 0 → sizeD d2 sl = (d2, e) → Z = (((i + WN : Nat) : Int), e, toB acc, [], 0) := fun e h1 h2 => by
      rw [h2, if_pos (.inr h1)] at hr
      rw [← hf, hr, more_fin (.inr h1)]
      dsimp only
      have e8 : d2.shut.tr = d2.tr := rfl
      rw [e8, htr2, List.append_nil, Nat.add_comm]
    by_cases hpe : pe = 0
    · subst hpe
      intro c hc
      rw [IntWalk.i64_in _ (by omega)] at hc
      subst hc
      refine cnd_split (fun h5 => ?_) (fun h5 => ?_)
      · have h5 := of_decide_eq_true h5
        have hfz := fin 7 (by decide) (by unfold sizeD; rw [hP, if_neg (fun h => h rfl), if_pos (by rw [hsu2]; show (mostB : Int) - _ < pn; omega)])
        subst hfz
        refine ⟨_, k1, ?_⟩
        refine ⟨_, st_eq k1, ?_⟩
        refine ⟨_, st_eq (st_eq k1), ?_⟩
        refine ⟨_, st_ne n10 (st_ne n10 k0), ?_⟩
        refine ⟨_, st_eq (st_ne n10 (st_ne n10 k0)), ?_⟩
        refine ⟨_, rfl, .inl ⟨rfl, rfl⟩, .inl ⟨rfl, rfl⟩, .inl ⟨rfl, rfl⟩, .inr ⟨rfl, 2, rfl⟩, .inl ⟨rfl, rfl⟩, trivial⟩
      · have h5 := of_decide_eq_false h5
        refine cnd_split (fun h6 => ?_) (fun h6 => ?_)
        · have h6 := beq_iff_eq.1 h6
          have hsd : sizeD d2 sl = ({ d2 with a := 3 }, 0) := by unfold sizeD; rw [hP, if_neg (fun h => h rfl), if_neg (by rw [hsu2]; show ¬ (mostB : Int) - _ < pn; omega), if_pos h6]
          rw [hsd, if_neg noFin] at hr
          have q3 := ends19_p s (toB acc) (i + WN) L { d2 with a := 3 } rfl hli2 hs2 htr2 (by omega) hsz hL
          have hfz := fate_ends (L := L) (d := { d2 with a := 3 }) rfl (i + WN) acc s.data.toList
          rw [hr, List.drop_drop, Rs.more_more, Nat.add_comm WN i, List.append_nil, hfz] at hf
          subst hf
          refine ⟨_, k1, ?_⟩
          refine .p rfl q3 ?_
          refine ⟨_, k0, ?_⟩
          refine ⟨_, st_eq k0, ?_⟩
          exact ⟨_, rfl, .inl ⟨rfl, rfl⟩, .inl ⟨rfl, rfl⟩, .inl ⟨rfl, rfl⟩, .inl ⟨rfl, rfl⟩, .inl ⟨rfl, rfl⟩, trivial⟩
        · have h6 := beq_eq_false_iff_ne.1 h6
          obtain ⟨pn, rfl⟩ := Int.eq_ofNat_of_zero_le hbn.1
          have hsd : sizeD d2 sl = ({ d2 with a := 1, left := pn, sum := sum + pn }, 0) := by unfold sizeD; rw [hP, if_neg (fun h => h rfl), if_neg (by rw [hsu2]; show ¬ (mostB : Int) - _ < (pn : Int); omega), if_neg h6, hsu2]; rfl
          rw [hsd, if_neg noFin] at hr
          rw [hr, List.drop_drop, Rs.more_more, Nat.add_comm WN i, List.append_nil] at hf
          intro c hc
          rw [IntWalk.i64_in _ (by omega)] at hc
          obtain rfl : c = ((sum + pn : Nat) : Int) := by omega
          intro c hc
          rw [IntWalk.i64_in _ (by omega)] at hc
          obtain rfl : c = ((s.size - (i + WN) : Nat) : Int) := by omega
          obtain ⟨k, hk⟩ : ∃ k, k = min pn (s.size - (i + WN)) := ⟨_, rfl⟩
          have hmin : (if ((s.size - (i + WN) : Nat) : Int) < (pn : Int) then ((s.size - (i + WN) : Nat) : Int) else (pn : Int)) = (k : Int) := by split <;> omega
          refine .e (by kernel_rfl) ?_
          refine ⟨_, k1, ?_⟩
          intro c hc
          have hc := hc.trans (congrArg (fun z : Int => IntKind.i64.wrap (((i + WN : Nat) : Int) + z)) hmin)
          rw [IntWalk.i64_in _ (by omega)] at hc
          obtain rfl : c = ((i + WN + k : Nat) : Int) := by omega
          refine ⟨i + WN + k, rfl, i + WN, rfl, by omega, by omega, ?_⟩
          have hex : (s.extract (i + WN) (i + WN + k)).data.toList = (s.data.toList.drop (i + WN)).take k := by
            rw [extB, List.drop_take, show i + WN + k - (i + WN) = k by omega]
          have hexs : (s.extract (i + WN) (i + WN + k)).size = k := by rw [← blen, hex, List.length_take, List.length_drop, hbl]; omega
          have hap : toB acc ++ s.extract (i + WN) (i + WN + k) = toB (acc ++ (s.data.toList.drop (i + WN)).take k) := by
            apply toInj
            rw [app_l', toB_l, toB_l, hex]
          refine ⟨by rw [hexs, toB_size]; omega, ?_⟩
          rw [hap]
          refine ⟨_, k1, ?_⟩
          intro c hc
          have hc := hc.trans (congrArg (fun z : Int => IntKind.i64.wrap (((i + WN : Nat) : Int) + z)) hmin)
          rw [IntWalk.i64_in _ (by omega)] at hc
          obtain rfl : c = ((i + WN + k : Nat) : Int) := by omega
          have hdl2 : (s.data.toList.drop (i + WN)).length = s.size - (i + WN) := by rw [List.length_drop, hbl]
          obtain ⟨acc2, hacc2⟩ : ∃ acc2, acc2 = acc ++ (s.data.toList.drop (i + WN)).take k := ⟨_, rfl⟩
          have ha2l : acc2.length = acc.length + k := by rw [hacc2, List.length_append, List.length_take, hdl2]; omega
          rw [← hacc2]
          have k1' := st_eq (x := [.i 0, .i 0, .s (toB acc2), .nilS, .i 0]) k1
          have k0' := st_ne (x := [.i 0, .i 0, .s (toB acc2), .nilS, .i 0]) n10 k0
          refine cnd_split (fun h7 => ?_) (fun h7 => ?_)
          · have h7 : (k : Int) < (pn : Int) := by rw [← hmin]; exact of_decide_eq_true h7
            have hra := runD_all (L := L) (d := { d2 with a := 1, left := pn, sum := sum + pn }) (l := s.data.toList.drop (i + WN)) rfl (by show _ < pn; omega)
            have hfz : Z = (0, 0, toB acc2, [], 0) := by
              rw [← hf, hra, more_not noFin, hacc2, List.take_of_length_le (by omega)]
              dsimp only
              rw [htr2, hli2]
              rfl
            subst hfz
            refine ⟨_, k1', ?_⟩
            refine ⟨_, k0', ?_⟩
            refine ⟨_, st_eq k0', ?_⟩
            refine ⟨_, rfl, .inl ⟨rfl, rfl⟩, .inl ⟨rfl, rfl⟩, .inl ⟨rfl, rfl⟩, .inr ⟨rfl, 2, rfl⟩, .inl ⟨rfl, rfl⟩, trivial⟩
          · have h7 : ¬ (k : Int) < (pn : Int) := by rw [← hmin]; exact of_decide_eq_false h7
            obtain ⟨k2, rfl⟩ : ∃ k2, pn = k2 + 1 := ⟨pn - 1, by omega⟩
            obtain rfl : k = k2 + 1 := by omega
            have hrd := runD_data (L := L) k2 { d2 with a := 1, left := k2 + 1, sum := sum + (k2 + 1) } (s.data.toList.drop (i + WN)) rfl (by show k2 < k2 + 1; omega) (by omega)
            have htk : ({ d2 with a := 1, left := k2 + 1, sum := sum + (k2 + 1) } : Dc).took (k2 + 1) = crD { d2 with sum := sum + (k2 + 1) } 0 := by
              unfold Dc.took crD
              rw [if_pos rfl, if_pos (by omega)]
            rw [hrd, htk, List.drop_drop, Rs.more_more, ← hacc2, Nat.add_comm (k2 + 1)] at hf
            refine vc_loop [107, 6] (fun g2 vals st' => ∃ j : Nat, j + g2 = 2 ∧ vals = [.i j, .i (i + WN + (k2 + 1) + j : Nat)] ∧ st'.heap[1]? = some [.i 0, .i 0, .s (toB acc2), .nilS, .i 0] ∧ st'.heap[0]? = some [.i 0, .i 0, .s ⟨#[]⟩, .nilS, .i 0] ∧ i + WN + (k2 + 1) + j ≤ s.size ∧ ((runD L (crD { d2 with sum := sum + (k2 + 1) } j) (s.data.toList.drop (i + WN + (k2 + 1) + j))).more (i + WN + (k2 + 1) + j) acc2).fate = Z) 2 rfl ⟨0, rfl, rfl, k1', k0', by omega, hf⟩ ?_
            rintro g2 vals st3 ⟨j, hj, rfl, h1, h0, hjs, hf⟩
            refine cnd_split (fun hd => ?_) (fun hd => ?_)
            · have hd : (j : Int) < 2 := of_decide_eq_true hd
              have j2 : j < 2 := by omega
              refine ⟨j, [.u8 (if j = 0 then 13 else 10)], rfl, by (obtain rfl | rfl : j = 0 ∨ j = 1 := by omega) <;> rfl, ?_⟩
              obtain ⟨x, hx⟩ : ∃ x, x = i + WN + (k2 + 1) + j := ⟨_, rfl⟩
              rw [← hx] at hf hjs ⊢
              refine cnd_split (fun h8 => ?_) (fun h8 => ?_)
              · have h8 := beq_iff_eq.1 h8
                rw [List.drop_of_length_le (by omega)] at hf
                have hfz : Z = (0, 0, toB acc2, [], 0) := by
                  rw [← hf]
                  have e1 : runD L (crD { d2 with sum := sum + (k2 + 1) } j) [] = ⟨0, [], false, 0, crD { d2 with sum := sum + (k2 + 1) } j⟩ := rfl
                  have e2 : (crD { d2 with sum := sum + (k2 + 1) } j).tr = d2.tr := by unfold crD; split <;> rfl
                  have e3 : (crD { d2 with sum := sum + (k2 + 1) } j).line = d2.line := by unfold crD; split <;> rfl
                  rw [e1, more_not noFin]
                  dsimp only
                  rw [e2, e3, htr2, hli2, List.append_nil]
                  rfl
                subst hfz
                refine ⟨_, h1, ?_⟩
                refine ⟨_, h0, ?_⟩
                refine ⟨_, st_eq h0, ?_⟩
                refine ⟨_, rfl, .inl ⟨rfl, rfl⟩, .inl ⟨rfl, rfl⟩, .inl ⟨rfl, rfl⟩, .inr ⟨rfl, 2, rfl⟩, .inl ⟨rfl, rfl⟩, trivial⟩
              · have h8 := beq_eq_false_iff_ne.1 h8
                have x1 : x < s.size := by omega
                have e0 : s.data.toList.drop x = s[x] :: s.data.toList.drop (x + 1) := by
                  rw [List.drop_eq_getElem_cons (by omega)]; rfl
                rw [e0, crD_step j2] at hf
                intro c hc
                rw [IntWalk.i64_in _ (by omega)] at hc
                obtain rfl : c = ((x + 1 : Nat) : Int) := by omega
                intro c hc
                rw [IntWalk.i64_in _ (by omega)] at hc
                obtain rfl : c = ((x : Nat) : Int) := by omega
                refine ⟨x, x1, rfl, ?_⟩
                refine cnd_split (fun h9 => ?_) (fun h9 => ?_)
                · have h9 : ¬ s[x] = (if j = 0 then 13 else 10) := fun e => by
                    rw [e] at h9
                    exact absurd rfl (bne_iff_ne.1 h9)
                  rw [if_neg h9, more_fin (.inr (show (31 : Int) ≠ 0 by decide))] at hf
                  have hfz : Z = (((x + 1 : Nat) : Int), 31, toB acc2, [], 0) := by
                    rw [← hf]
                    have e2 : (crD { d2 with sum := sum + (k2 + 1) } j).shut.tr = d2.tr := by unfold crD Dc.shut; split <;> rfl
                    dsimp only
                    rw [e2, htr2, List.append_nil, Nat.add_comm]
                  subst hfz
                  refine ⟨_, h1, ?_⟩
                  refine ⟨_, st_eq h1, ?_⟩
                  refine ⟨_, st_eq (st_eq h1), ?_⟩
                  refine ⟨_, st_ne n10 (st_ne n10 h0), ?_⟩
                  refine ⟨_, st_eq (st_ne n10 (st_ne n10 h0)), ?_⟩
                  refine ⟨_, rfl, .inl ⟨rfl, rfl⟩, .inl ⟨rfl, rfl⟩, .inl ⟨rfl, rfl⟩, .inr ⟨rfl, 2, rfl⟩, .inl ⟨rfl, rfl⟩, trivial⟩
                · have h9 : s[x] = (if j = 0 then 13 else 10) := UInt8.toNat_inj.1 (by have := bne_eq_false_iff_eq.1 h9; omega)
                  rw [if_pos h9, Rs.more_more, Nat.add_comm 1, List.append_nil] at hf
                  intro c hc
                  rw [IntWalk.i64_in _ (by omega)] at hc
                  obtain rfl : c = ((j + 1 : Nat) : Int) := by omega
                  subst hx
                  exact ⟨g2 - 1, by omega, j + 1, by omega, rfl, h1, h0, by omega, hf⟩
            · have hd : ¬ (j : Int) < 2 := of_decide_eq_false hd
              obtain rfl : j = 2 := by omega
              have hcr : crD { d2 with sum := sum + (k2 + 1) } 2 = { d2 with a := 0, left := 0, sum := sum + (k2 + 1) } := if_neg (by omega)
              rw [hcr] at hf
              exact ⟨g - (WN + (k2 + 1) + 2), by omega, i + WN + (k2 + 1) + 2, sum + (k2 + 1), { d2 with a := 0, left := 0, sum := sum + (k2 + 1) }, acc2, by omega, rfl, h1, h0, rfl, hli2, rfl, by omega, hs2, htr2, by omega, hf⟩
    · have hfz := fin pe hpe (by unfold sizeD; rw [hP, if_pos hpe])
      subst hfz
      refine cnd_split (fun h => absurd (beq_iff_eq.1 h) hpe) (fun _ => ?_)
      refine cnd_split (fun _ => ?_) (fun h => absurd (bne_eq_false_iff_eq.1 h) hpe)
      refine ⟨_, k1, ?_⟩
      refine ⟨_, st_eq k1, ?_⟩
      refine ⟨_, st_eq (st_eq k1), ?_⟩
      refine ⟨_, st_ne n10 (st_ne n10 k0), ?_⟩
      refine ⟨_, st_eq (st_ne n10 (st_ne n10 k0)), ?_⟩
      refine ⟨_, rfl, .inl ⟨rfl, rfl⟩, .inl ⟨rfl, rfl⟩, .inl ⟨rfl, rfl⟩, .inr ⟨rfl, 2, rfl⟩, .inl ⟨rfl, rfl⟩, trivial⟩
end
end Go.Proofs.YtookaenbpfpegaaDoor
