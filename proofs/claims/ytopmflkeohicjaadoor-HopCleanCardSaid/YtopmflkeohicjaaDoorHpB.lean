/- What is nominated, and what goes on: the document. No statement of its own. -/
import Derived.Test.YtopmflkeohicjaaDoorHp5
set_option maxRecDepth 100000
namespace Go.Proofs.YtopmflkeohicjaaDoor
open Go.RowKit
theorem foldRm_p (s : ByteArray) (hs : s.size ≤ maxLen) : APure Tryd.prog 87 [.s s] (.s (foldB s)) [] := by
  have hmx : maxLen = 9223372036854775807 := rfl
  rw [hmx] at hs
  refine APure.of rfl (ACalls.of_vc T_ok mixed Tryd.func87 rfl Tryd.call87 ?_)
  refine vc_loop [3, 4] (fun g vals st' => ∃ (k : Nat) (y : ByteArray), k + g = s.size ∧ vals = [.s y, .i k] ∧ y = ⟨(foldL (s.data.toList.take k)).toArray⟩) s.size rfl ⟨0, ⟨#[]⟩, by omega, rfl, rfl⟩ ?_
  rintro g vals st' ⟨k, y, hk, rfl, hy⟩
  refine cnd_split (fun hd => ?_) (fun hd => ?_)
  · have hd := of_decide_eq_true hd
    have k1 : k < s.size := by omega
    have ysz : y.size = k := by
      rw [hy]
      show (Array.size _) = _
      rw [List.size_toArray]
      unfold foldL
      rw [List.length_map, List.length_take, blen]; omega
    intro c hc
    rw [IntWalk.i64_in _ (by omega)] at hc
    obtain rfl : c = ((k + 1 : Nat) : Int) := by omega
    refine ⟨k + 1, rfl, k, rfl, by omega, by omega, ?_⟩
    refine vc_loop [5, 6] (fun g2 vals st2 => ∃ (j : Nat) (x : ByteArray), j + g2 = 26 ∧ vals = [.s x, .i j] ∧ x = ⟨#[lwJ s[k] j]⟩) 26 rfl ⟨0, s.extract k (k + 1), by omega, rfl, by rw [ext1 s k k1]; unfold lwJ; rw [if_neg (by omega)]⟩ ?_
    rintro g2 vals st2 ⟨j, x, hj, rfl, hx⟩
    refine cnd_split (fun hd2 => ?_) (fun hd2 => ?_)
    · have hd2 := of_decide_eq_true hd2
      have j1 : j < 26 := by omega
      have hu := upS_at j j1
      refine .e (by kernel_rfl) ?_
      refine ⟨j, j1, rfl, ?_⟩
      refine ⟨k, k1, rfl, ?_⟩
      have next : (s[k].toNat = 65 + j → UInt8.ofNat (97 + j) = lwJ s[k] (j + 1)) ∧ (s[k].toNat ≠ 65 + j → lwJ s[k] j = lwJ s[k] (j + 1)) := by
        constructor
        · intro h
          unfold lwJ
          rw [if_pos ⟨by omega, by omega⟩, ← lowU_up j j1, ← h, UInt8.ofNat_toNat]
        · intro h
          unfold lwJ
          by_cases h2 : 65 ≤ s[k].toNat ∧ s[k].toNat < 65 + j
          · rw [if_pos h2, if_pos ⟨h2.1, by omega⟩]
          · rw [if_neg h2, if_neg (by omega)]
      refine cnd_split (fun h3 => ?_) (fun h3 => ?_)
      · have h3 : ((upS[j]'j1).toNat : Int) = (s[k].toNat : Int) := beq_iff_eq.1 h3
        intro c hc
        rw [IntWalk.i64_in _ (by omega)] at hc
        obtain rfl : c = ((j + 1 : Nat) : Int) := by omega
        refine ⟨j + 1, rfl, j, rfl, by omega, by show j + 1 ≤ 26; omega, ?_⟩
        intro c hc
        rw [IntWalk.i64_in _ (by omega)] at hc
        obtain rfl : c = ((j + 1 : Nat) : Int) := by omega
        refine ⟨g2 - 1, by omega, j + 1, _, by omega, rfl, ?_⟩
        rw [← next.1 (by omega)]
        exact loS_at j j1
      · have h3 : ¬ ((upS[j]'j1).toNat : Int) = (s[k].toNat : Int) := beq_eq_false_iff_ne.1 h3
        intro c hc
        rw [IntWalk.i64_in _ (by omega)] at hc
        obtain rfl : c = ((j + 1 : Nat) : Int) := by omega
        exact ⟨g2 - 1, by omega, j + 1, x, by omega, rfl, by rw [hx, next.2 (fun e => h3 (by omega))]⟩
    · have hd2 := of_decide_eq_false hd2
      obtain rfl : j = 26 := by omega
      rw [lwJ_26] at hx
      have xsz : x.size = 1 := by rw [hx]; rfl
      refine ⟨by omega, ?_⟩
      intro c hc
      rw [IntWalk.i64_in _ (by omega)] at hc
      obtain rfl : c = ((k + 1 : Nat) : Int) := by omega
      refine ⟨g - 1, by omega, k + 1, _, by omega, rfl, ?_⟩
      rw [hy, hx, List.take_add_one, at_lt k1]
      apply inL
      rw [app_l]
      simp [foldL]
  · have hd := of_decide_eq_false hd
    refine rets ?_
    rw [hy, List.take_of_length_le (by rw [blen]; omega)]
    rfl
theorem fixed24_p (name : ByteArray) (hn : name.size ≤ maxLen) : APure Tryd.prog 44 [.s name] (.b (memB namesL (foldB name))) [] := by
  have pr := foldRm_p name hn
  generalize foldB name = t at pr
  refine APure.of rfl (ACalls.of_vc T_ok mixed Tryd.func44 rfl Tryd.call44 ?_)
  refine .p rfl pr ?_
  intro b0 h0
  cases b0 with
  | true =>
    have e := h0.1 rfl
    exact retb (by rw [e]; decide +kernel)
  | false =>
    intro b1 h1
    cases b1 with
    | true =>
      have e := h1.1 rfl
      exact retb (by rw [e]; decide +kernel)
    | false =>
      intro b2 h2
      cases b2 with
      | true =>
        have e := h2.1 rfl
        exact retb (by rw [e]; decide +kernel)
      | false =>
        intro b3 h3
        cases b3 with
        | true =>
          have e := h3.1 rfl
          exact retb (by rw [e]; decide +kernel)
        | false =>
          intro b4 h4
          cases b4 with
          | true =>
            have e := h4.1 rfl
            exact retb (by rw [e]; decide +kernel)
          | false =>
            intro b5 h5
            cases b5 with
            | true =>
              have e := h5.1 rfl
              exact retb (by rw [e]; decide +kernel)
            | false =>
              intro b6 h6
              cases b6 with
              | true =>
                have e := h6.1 rfl
                exact retb (by rw [e]; decide +kernel)
              | false =>
                intro b7 h7
                cases b7 with
                | true =>
                  have e := h7.1 rfl
                  exact retb (by rw [e]; decide +kernel)
                | false =>
                  refine retb (memB_false fun hm => ?_).symm
                  simp only [namesL, List.mem_cons, List.not_mem_nil, or_false] at hm
                  rcases hm with hm | hm | hm | hm | hm | hm | hm | hm
                  · exact absurd (h0.2 hm) (by decide)
                  · exact absurd (h1.2 hm) (by decide)
                  · exact absurd (h2.2 hm) (by decide)
                  · exact absurd (h3.2 hm) (by decide)
                  · exact absurd (h4.2 hm) (by decide)
                  · exact absurd (h5.2 hm) (by decide)
                  · exact absurd (h6.2 hm) (by decide)
                  · exact absurd (h7.2 hm) (by decide)
theorem one_row {v : List ByteArray} {k : Nat} (h : k < v.length) : ((strL v).drop k).take (k + 1 - k) = strL [v[k]] := by
  rw [show k + 1 - k = 1 by omega, List.drop_eq_getElem_cons (by rw [strL_len]; exact h)]
  simp [strL]
theorem memB_snoc (o : List ByteArray) (t : ByteArray) (i : Nat) (h : i < o.length) : memB (o.take (i + 1)) t = (memB (o.take i) t || decide (o[i] = t)) := by
  rw [List.take_succ_eq_append_getElem h]
  unfold memB
  rw [List.any_append]
  simp
section
attribute [local irreducible] vcApp
set_option maxHeartbeats 4000000 in
theorem nom24_p (l : List Fld) (hl : FldOk l) : APure Tryd.prog 47 [.sl .no 2 (fldL l)] (.sl .no 1 (strL (nomW l))) [] := by
  have hmx : maxLen = 9223372036854775807 := rfl
  have hll := hl.len
  have vc := hl.vlen coS
  have vcs := hl.vsize coS
  have p1 := vals13_p l coS (by omega) hl.big (by decide)
  generalize hvv : valsW coS l = v at *
  have elv := strL_len v
  refine APure.ofW rfl ?_
  refine ACalls.of_vc T_ok mixed Tryd.func47 rfl Tryd.call47 ?_
  refine .p rfl p1 ?_
  refine vc_loop [3, 5] (fun g vals st' => ∃ (k : Nat) (a : AV) (out : List ByteArray), k + g = v.length ∧ vals = [a, .i k] ∧ Acc 0 st'.tk 1 a (strL out) ∧ out.length ≤ k * 4001 ∧ (∀ x ∈ out, x.size ≤ 4000) ∧ out = (v.take k).foldl nomV []) v.length rfl ⟨0, _, [], by omega, rfl, .nil, by simp, by simp, rfl⟩ ?_
  rintro g vals st' ⟨k, a, out, hk, rfl, hA, hol, hos, hout⟩
  have elo := strL_len out
  generalize hes : strL out = es at hA elo
  cases hA with
  | nil =>
    refine cnd_split (fun hd => ?_) (fun hd => ?_)
    · have hd := of_decide_eq_true hd
      have k1 : k < v.length := by omega
      have sz := vcs v[k] (List.getElem_mem k1)
      have hto := tokensR_p [v[k]] (by simp) (fun x hx => by rw [List.mem_singleton.1 hx]; exact sz)
      unfold tokR at hto
      rw [← one_row k1] at hto
      have hvn : (v.take (k + 1)).foldl nomV [] = ((tokW [v[k]]).getD []).foldl addN out := by rw [List.take_succ_eq_append_getElem k1, List.foldl_append, ← hout]; rfl
      intro c hc2
      rw [IntWalk.i64_in _ (by omega)] at hc2
      obtain rfl : c = ((k + 1 : Nat) : Int) := by omega
      refine ⟨k + 1, rfl, k, rfl, by omega, by omega, ?_⟩
      cases htw : tokW [v[k]] with
      | none =>
        rw [htw] at hto hvn
        refine .p rfl hto ?_
        refine vc_loop [3, 8] (fun g2 vals st2 => vals = [.nilS, .i 0] ∧ st2 = st') 0 rfl ⟨rfl, rfl⟩ ?_
        rintro g2 vals st2 ⟨rfl, rfl⟩
        intro c hc2
        rw [IntWalk.i64_in _ (by omega)] at hc2
        obtain rfl : c = ((k + 1 : Nat) : Int) := by omega
        exact ⟨g - 1, by omega, k + 1, _, out, by omega, rfl, by rw [hes]; exact .nil, by rw [Nat.add_mul]; omega, hos, by rw [hvn]; rfl⟩
      | some p =>
        rw [htw] at hto hvn
        have hvn : (v.take (k + 1)).foldl nomV [] = p.foldl addN out := hvn
        have elp := strL_len p
        have psz := tokW_sz [v[k]] p (fun x hx => by rw [List.mem_singleton.1 hx]; exact sz) htw
        have pn : p.length ≤ 4001 := by have := (splW_bound _ 0 [] p rfl (Nat.zero_le _) (tokW_one htw)).1; simp at this; omega
        refine .p rfl hto ?_
        refine vc_loop [3, 8] (fun g2 vals st2 => ∃ (j : Nat) (a2 : AV) (o : List ByteArray), j + g2 = p.length ∧ vals = [a2, .i j] ∧ Acc 0 st2.tk 1 a2 (strL o) ∧ o.length ≤ k * 4001 + j ∧ (∀ x ∈ o, x.size ≤ 4000) ∧ o = (p.take j).foldl addN out) p.length rfl ⟨0, _, out, by omega, rfl, by rw [hes]; exact .nil, by omega, hos, rfl⟩ ?_
        rintro g2 vals st2 ⟨j, a2, o, hj, rfl, hA2, hol, hos2, ho⟩
        have elo := strL_len o
        generalize heo : strL o = eo at hA2 elo
        cases hA2 with
        | nil =>
          refine cnd_split (fun hd2 => ?_) (fun hd2 => ?_)
          · have hd2 := of_decide_eq_true hd2
            have j1 : j < p.length := by omega
            have szj := psz p[j] (List.getElem_mem j1)
            have hst : (p.take (j + 1)).foldl addN out = addN o p[j] := by rw [List.take_succ_eq_append_getElem j1, List.foldl_append, ← ho]; rfl
            have hfs : (foldB p[j]).size ≤ 4000 := by rw [foldB_size]; exact szj
            have pf := foldR_p p[j] (by omega)
            unfold addN at hst
            generalize foldB p[j] = t at hst hfs pf
            refine ⟨j, _, rfl, strL_at j1, ?_⟩
            refine .p rfl pf ?_
            intro b hb
            have hb : b = true ↔ t = hostS := hb
            have hbd : b = decide (t = hostS) := by rw [Bool.eq_iff_iff, hb, decide_eq_true_eq]
            rw [← hbd] at hst
            have o0 : o = [] := (nil_len o).1 heo
            refine vc_loop [10, 11] (fun g3 vals st3 => vals = [.b b, .i 0] ∧ st3 = st2) 0 rfl ⟨rfl, rfl⟩ ?_
            rintro g3 vals st3 ⟨rfl, rfl⟩
            rw [show memB o t = false from by rw [o0]; rfl, Bool.or_false] at hst
            generalize hz : b = z at *
            cases z with
            | true =>
              rw [if_pos rfl] at hst
              intro c hc2
              rw [IntWalk.i64_in _ (by omega)] at hc2
              obtain rfl : c = ((j + 1 : Nat) : Int) := by omega
              exact ⟨g2 - 1, by omega, j + 1, _, o, by omega, rfl, by rw [heo]; exact .nil, by omega, hos2, hst.symm⟩
            | false =>
              rw [if_neg (by decide)] at hst
              refine Acc.app (n := 0) (i := ti9) (es := []) .nil (Nat.zero_le _) (List.cons_ne_nil _ _) ?_ ?_ (fun t9 e9 tk9 z0 z1 z2 z3 => ?_)
              · show (([] : List (List AV)).length + 1) * 16 ≤ _; omega
              · show ([] : List (List AV)).length + 1 ≤ _; omega
              intro c hc2
              rw [IntWalk.i64_in _ (by omega)] at hc2
              obtain rfl : c = ((j + 1 : Nat) : Int) := by omega
              refine ⟨g2 - 1, by omega, j + 1, _, o ++ [t], by omega, rfl, ?_, by rw [List.length_append, List.length_singleton]; omega, fun x hx => ?_, hst.symm⟩
              · rw [← strL_app, heo]
                exact .own _ _ _ z0 z1
              · rcases List.mem_append.1 hx with hx | hx
                · exact hos2 x hx
                · rw [List.mem_singleton.1 hx]; exact hfs
          · have hd2 := of_decide_eq_false hd2
            rw [List.take_of_length_le (by omega)] at ho
            intro c hc2
            rw [IntWalk.i64_in _ (by omega)] at hc2
            obtain rfl : c = ((k + 1 : Nat) : Int) := by omega
            exact ⟨g - 1, by omega, k + 1, _, o, by omega, rfl, by rw [heo]; exact .nil, by rw [Nat.add_mul]; omega, hos2, by rw [hvn, ho]⟩
        | own t5 e5 eo v0 v1 =>
          refine cnd_split (fun hd2 => ?_) (fun hd2 => ?_)
          · have hd2 := of_decide_eq_true hd2
            have j1 : j < p.length := by omega
            have szj := psz p[j] (List.getElem_mem j1)
            have hst : (p.take (j + 1)).foldl addN out = addN o p[j] := by rw [List.take_succ_eq_append_getElem j1, List.foldl_append, ← ho]; rfl
            have hfs : (foldB p[j]).size ≤ 4000 := by rw [foldB_size]; exact szj
            have pf := foldR_p p[j] (by omega)
            unfold addN at hst
            generalize foldB p[j] = t at hst hfs pf
            refine ⟨j, _, rfl, strL_at j1, ?_⟩
            refine .p rfl pf ?_
            intro b hb
            have hb : b = true ↔ t = hostS := hb
            have hbd : b = decide (t = hostS) := by rw [Bool.eq_iff_iff, hb, decide_eq_true_eq]
            rw [← hbd] at hst
            refine vc_loop [10, 11] (fun g3 vals st3 => ∃ (i : Nat) (z : Bool), i + g3 = o.length ∧ vals = [.b z, .i i] ∧ st3 = st2 ∧ z = (b || memB (o.take i) t)) o.length rfl ⟨0, b, by omega, rfl, rfl, by simp [memB]⟩ ?_
            rintro g3 vals st3 ⟨i, z, hi, rfl, rfl, hz⟩
            refine cnd_split (fun hd3 => ?_) (fun hd3 => ?_)
            · have hd3 := of_decide_eq_true hd3
              have i1 : i < o.length := by omega
              have hsn := memB_snoc o t i i1
              cases z with
              | true =>
                intro c hc2
                rw [IntWalk.i64_in _ (by omega)] at hc2
                obtain rfl : c = ((i + 1 : Nat) : Int) := by omega
                exact ⟨g3 - 1, by omega, i + 1, true, by omega, rfl, rfl, by rw [hsn, ← Bool.or_assoc, ← hz]; rfl⟩
              | false =>
                refine ⟨i, _, rfl, by rw [← heo]; exact strL_at i1, ?_⟩
                intro q hq
                intro c hc2
                rw [IntWalk.i64_in _ (by omega)] at hc2
                obtain rfl : c = ((i + 1 : Nat) : Int) := by omega
                refine ⟨g3 - 1, by omega, i + 1, q, by omega, rfl, rfl, ?_⟩
                rw [hsn, ← Bool.or_assoc, ← hz, Bool.false_or, Bool.eq_iff_iff, hq, decide_eq_true_eq]
            · have hd3 := of_decide_eq_false hd3
              rw [List.take_of_length_le (by omega)] at hz
              rw [← hz] at hst
              cases z with
              | true =>
                rw [if_pos rfl] at hst
                intro c hc2
                rw [IntWalk.i64_in _ (by omega)] at hc2
                obtain rfl : c = ((j + 1 : Nat) : Int) := by omega
                exact ⟨g2 - 1, by omega, j + 1, _, o, by omega, rfl, by rw [heo]; exact (.own _ _ _ v0 v1), by omega, hos2, hst.symm⟩
              | false =>
                rw [if_neg (by decide)] at hst
                refine Acc.app (n := 0) (i := ti9) (es := eo) (.own _ _ _ v0 v1) (Nat.zero_le _) (List.cons_ne_nil _ _) ?_ ?_ (fun t9 e9 tk9 z0 z1 z2 z3 => ?_)
                · show ((eo : List (List AV)).length + 1) * 16 ≤ _; omega
                · show (eo : List (List AV)).length + 1 ≤ _; omega
                intro c hc2
                rw [IntWalk.i64_in _ (by omega)] at hc2
                obtain rfl : c = ((j + 1 : Nat) : Int) := by omega
                refine ⟨g2 - 1, by omega, j + 1, _, o ++ [t], by omega, rfl, ?_, by rw [List.length_append, List.length_singleton]; omega, fun x hx => ?_, hst.symm⟩
                · rw [← strL_app, heo]
                  exact .own _ _ _ z0 z1
                · rcases List.mem_append.1 hx with hx | hx
                  · exact hos2 x hx
                  · rw [List.mem_singleton.1 hx]; exact hfs
          · have hd2 := of_decide_eq_false hd2
            rw [List.take_of_length_le (by omega)] at ho
            intro c hc2
            rw [IntWalk.i64_in _ (by omega)] at hc2
            obtain rfl : c = ((k + 1 : Nat) : Int) := by omega
            exact ⟨g - 1, by omega, k + 1, _, o, by omega, rfl, by rw [heo]; exact (.own _ _ _ v0 v1), by rw [Nat.add_mul]; omega, hos2, by rw [hvn, ho]⟩
    · have hd := of_decide_eq_false hd
      rw [List.take_of_length_le (by omega)] at hout
      unfold nomW
      rw [hvv, ← hout, hes]
      exact (.inr (.inl ⟨1, rfl, rfl⟩))
  | own t0 e0 es q0 q1 =>
    refine cnd_split (fun hd => ?_) (fun hd => ?_)
    · have hd := of_decide_eq_true hd
      have k1 : k < v.length := by omega
      have sz := vcs v[k] (List.getElem_mem k1)
      have hto := tokensR_p [v[k]] (by simp) (fun x hx => by rw [List.mem_singleton.1 hx]; exact sz)
      unfold tokR at hto
      rw [← one_row k1] at hto
      have hvn : (v.take (k + 1)).foldl nomV [] = ((tokW [v[k]]).getD []).foldl addN out := by rw [List.take_succ_eq_append_getElem k1, List.foldl_append, ← hout]; rfl
      intro c hc2
      rw [IntWalk.i64_in _ (by omega)] at hc2
      obtain rfl : c = ((k + 1 : Nat) : Int) := by omega
      refine ⟨k + 1, rfl, k, rfl, by omega, by omega, ?_⟩
      cases htw : tokW [v[k]] with
      | none =>
        rw [htw] at hto hvn
        refine .p rfl hto ?_
        refine vc_loop [3, 8] (fun g2 vals st2 => vals = [(.sl (.own t0 e0) 1 es), .i 0] ∧ st2 = st') 0 rfl ⟨rfl, rfl⟩ ?_
        rintro g2 vals st2 ⟨rfl, rfl⟩
        intro c hc2
        rw [IntWalk.i64_in _ (by omega)] at hc2
        obtain rfl : c = ((k + 1 : Nat) : Int) := by omega
        exact ⟨g - 1, by omega, k + 1, _, out, by omega, rfl, by rw [hes]; exact (.own _ _ _ q0 q1), by rw [Nat.add_mul]; omega, hos, by rw [hvn]; rfl⟩
      | some p =>
        rw [htw] at hto hvn
        have hvn : (v.take (k + 1)).foldl nomV [] = p.foldl addN out := hvn
        have elp := strL_len p
        have psz := tokW_sz [v[k]] p (fun x hx => by rw [List.mem_singleton.1 hx]; exact sz) htw
        have pn : p.length ≤ 4001 := by have := (splW_bound _ 0 [] p rfl (Nat.zero_le _) (tokW_one htw)).1; simp at this; omega
        refine .p rfl hto ?_
        refine vc_loop [3, 8] (fun g2 vals st2 => ∃ (j : Nat) (a2 : AV) (o : List ByteArray), j + g2 = p.length ∧ vals = [a2, .i j] ∧ Acc 0 st2.tk 1 a2 (strL o) ∧ o.length ≤ k * 4001 + j ∧ (∀ x ∈ o, x.size ≤ 4000) ∧ o = (p.take j).foldl addN out) p.length rfl ⟨0, _, out, by omega, rfl, by rw [hes]; exact (.own _ _ _ q0 q1), by omega, hos, rfl⟩ ?_
        rintro g2 vals st2 ⟨j, a2, o, hj, rfl, hA2, hol, hos2, ho⟩
        have elo := strL_len o
        generalize heo : strL o = eo at hA2 elo
        cases hA2 with
        | nil =>
          refine cnd_split (fun hd2 => ?_) (fun hd2 => ?_)
          · have hd2 := of_decide_eq_true hd2
            have j1 : j < p.length := by omega
            have szj := psz p[j] (List.getElem_mem j1)
            have hst : (p.take (j + 1)).foldl addN out = addN o p[j] := by rw [List.take_succ_eq_append_getElem j1, List.foldl_append, ← ho]; rfl
            have hfs : (foldB p[j]).size ≤ 4000 := by rw [foldB_size]; exact szj
            have pf := foldR_p p[j] (by omega)
            unfold addN at hst
            generalize foldB p[j] = t at hst hfs pf
            refine ⟨j, _, rfl, strL_at j1, ?_⟩
            refine .p rfl pf ?_
            intro b hb
            have hb : b = true ↔ t = hostS := hb
            have hbd : b = decide (t = hostS) := by rw [Bool.eq_iff_iff, hb, decide_eq_true_eq]
            rw [← hbd] at hst
            have o0 : o = [] := (nil_len o).1 heo
            refine vc_loop [10, 11] (fun g3 vals st3 => vals = [.b b, .i 0] ∧ st3 = st2) 0 rfl ⟨rfl, rfl⟩ ?_
            rintro g3 vals st3 ⟨rfl, rfl⟩
            rw [show memB o t = false from by rw [o0]; rfl, Bool.or_false] at hst
            generalize hz : b = z at *
            cases z with
            | true =>
              rw [if_pos rfl] at hst
              intro c hc2
              rw [IntWalk.i64_in _ (by omega)] at hc2
              obtain rfl : c = ((j + 1 : Nat) : Int) := by omega
              exact ⟨g2 - 1, by omega, j + 1, _, o, by omega, rfl, by rw [heo]; exact .nil, by omega, hos2, hst.symm⟩
            | false =>
              rw [if_neg (by decide)] at hst
              refine Acc.app (n := 0) (i := ti9) (es := []) .nil (Nat.zero_le _) (List.cons_ne_nil _ _) ?_ ?_ (fun t9 e9 tk9 z0 z1 z2 z3 => ?_)
              · show (([] : List (List AV)).length + 1) * 16 ≤ _; omega
              · show ([] : List (List AV)).length + 1 ≤ _; omega
              intro c hc2
              rw [IntWalk.i64_in _ (by omega)] at hc2
              obtain rfl : c = ((j + 1 : Nat) : Int) := by omega
              refine ⟨g2 - 1, by omega, j + 1, _, o ++ [t], by omega, rfl, ?_, by rw [List.length_append, List.length_singleton]; omega, fun x hx => ?_, hst.symm⟩
              · rw [← strL_app, heo]
                exact .own _ _ _ z0 z1
              · rcases List.mem_append.1 hx with hx | hx
                · exact hos2 x hx
                · rw [List.mem_singleton.1 hx]; exact hfs
          · have hd2 := of_decide_eq_false hd2
            rw [List.take_of_length_le (by omega)] at ho
            intro c hc2
            rw [IntWalk.i64_in _ (by omega)] at hc2
            obtain rfl : c = ((k + 1 : Nat) : Int) := by omega
            exact ⟨g - 1, by omega, k + 1, _, o, by omega, rfl, by rw [heo]; exact .nil, by rw [Nat.add_mul]; omega, hos2, by rw [hvn, ho]⟩
        | own t5 e5 eo v0 v1 =>
          refine cnd_split (fun hd2 => ?_) (fun hd2 => ?_)
          · have hd2 := of_decide_eq_true hd2
            have j1 : j < p.length := by omega
            have szj := psz p[j] (List.getElem_mem j1)
            have hst : (p.take (j + 1)).foldl addN out = addN o p[j] := by rw [List.take_succ_eq_append_getElem j1, List.foldl_append, ← ho]; rfl
            have hfs : (foldB p[j]).size ≤ 4000 := by rw [foldB_size]; exact szj
            have pf := foldR_p p[j] (by omega)
            unfold addN at hst
            generalize foldB p[j] = t at hst hfs pf
            refine ⟨j, _, rfl, strL_at j1, ?_⟩
            refine .p rfl pf ?_
            intro b hb
            have hb : b = true ↔ t = hostS := hb
            have hbd : b = decide (t = hostS) := by rw [Bool.eq_iff_iff, hb, decide_eq_true_eq]
            rw [← hbd] at hst
            refine vc_loop [10, 11] (fun g3 vals st3 => ∃ (i : Nat) (z : Bool), i + g3 = o.length ∧ vals = [.b z, .i i] ∧ st3 = st2 ∧ z = (b || memB (o.take i) t)) o.length rfl ⟨0, b, by omega, rfl, rfl, by simp [memB]⟩ ?_
            rintro g3 vals st3 ⟨i, z, hi, rfl, rfl, hz⟩
            refine cnd_split (fun hd3 => ?_) (fun hd3 => ?_)
            · have hd3 := of_decide_eq_true hd3
              have i1 : i < o.length := by omega
              have hsn := memB_snoc o t i i1
              cases z with
              | true =>
                intro c hc2
                rw [IntWalk.i64_in _ (by omega)] at hc2
                obtain rfl : c = ((i + 1 : Nat) : Int) := by omega
                exact ⟨g3 - 1, by omega, i + 1, true, by omega, rfl, rfl, by rw [hsn, ← Bool.or_assoc, ← hz]; rfl⟩
              | false =>
                refine ⟨i, _, rfl, by rw [← heo]; exact strL_at i1, ?_⟩
                intro q hq
                intro c hc2
                rw [IntWalk.i64_in _ (by omega)] at hc2
                obtain rfl : c = ((i + 1 : Nat) : Int) := by omega
                refine ⟨g3 - 1, by omega, i + 1, q, by omega, rfl, rfl, ?_⟩
                rw [hsn, ← Bool.or_assoc, ← hz, Bool.false_or, Bool.eq_iff_iff, hq, decide_eq_true_eq]
            · have hd3 := of_decide_eq_false hd3
              rw [List.take_of_length_le (by omega)] at hz
              rw [← hz] at hst
              cases z with
              | true =>
                rw [if_pos rfl] at hst
                intro c hc2
                rw [IntWalk.i64_in _ (by omega)] at hc2
                obtain rfl : c = ((j + 1 : Nat) : Int) := by omega
                exact ⟨g2 - 1, by omega, j + 1, _, o, by omega, rfl, by rw [heo]; exact (.own _ _ _ v0 v1), by omega, hos2, hst.symm⟩
              | false =>
                rw [if_neg (by decide)] at hst
                refine Acc.app (n := 0) (i := ti9) (es := eo) (.own _ _ _ v0 v1) (Nat.zero_le _) (List.cons_ne_nil _ _) ?_ ?_ (fun t9 e9 tk9 z0 z1 z2 z3 => ?_)
                · show ((eo : List (List AV)).length + 1) * 16 ≤ _; omega
                · show (eo : List (List AV)).length + 1 ≤ _; omega
                intro c hc2
                rw [IntWalk.i64_in _ (by omega)] at hc2
                obtain rfl : c = ((j + 1 : Nat) : Int) := by omega
                refine ⟨g2 - 1, by omega, j + 1, _, o ++ [t], by omega, rfl, ?_, by rw [List.length_append, List.length_singleton]; omega, fun x hx => ?_, hst.symm⟩
                · rw [← strL_app, heo]
                  exact .own _ _ _ z0 z1
                · rcases List.mem_append.1 hx with hx | hx
                  · exact hos2 x hx
                  · rw [List.mem_singleton.1 hx]; exact hfs
          · have hd2 := of_decide_eq_false hd2
            rw [List.take_of_length_le (by omega)] at ho
            intro c hc2
            rw [IntWalk.i64_in _ (by omega)] at hc2
            obtain rfl : c = ((k + 1 : Nat) : Int) := by omega
            exact ⟨g - 1, by omega, k + 1, _, o, by omega, rfl, by rw [heo]; exact (.own _ _ _ v0 v1), by rw [Nat.add_mul]; omega, hos2, by rw [hvn, ho]⟩
    · have hd := of_decide_eq_false hd
      rw [List.take_of_length_le (by omega)] at hout
      unfold nomW
      rw [hvv, ← hout, hes]
      exact (.inl rfl)
def keptS (n : List ByteArray) (l : List Fld) : List Fld := l.filter fun f => !memB namesL (foldB f.1) && !memB n (foldB f.1)
theorem keptS_snoc (n : List ByteArray) (l : List Fld) (k : Nat) (h : k < l.length) : keptS n (l.take (k + 1)) = keptS n (l.take k) ++ (if (!memB namesL (foldB l[k].1) && !memB n (foldB l[k].1)) = true then [l[k]] else []) := by
  rw [List.take_succ_eq_append_getElem h]
  unfold keptS
  rw [List.filter_append]
  congr 1
  cases ho : (!memB namesL (foldB l[k].1) && !memB n (foldB l[k].1)) with
  | true => simp [List.filter, ho]
  | false => simp [List.filter, ho]
theorem oneW_mem {ns : List ByteArray} (h : ∀ x ∈ ns, foldB x = x) (name : ByteArray) : oneW name ns = memB ns (foldB name) := by
  unfold oneW memB
  induction ns with
  | nil => rfl
  | cons x r ih =>
    rw [List.any_cons, List.any_cons, h x (.head _), ih (fun y hy => h y (.tail _ hy))]
theorem namesL_fold : ∀ x ∈ namesL, foldB x = x := by decide +kernel
theorem stripW_S (l : List Fld) (hl : FldOk l) : stripW l = keptS (nomW l) l := by
  obtain ⟨_, h2⟩ := nomW_bound l hl
  unfold stripW keptW keptS
  congr 1
  funext f
  rw [oneW_mem (fun x hx => by
    rcases List.mem_append.1 hx with hx | hx
    · exact (h2 x hx).2
    · exact namesL_fold x hx)]
  unfold memB
  rw [List.any_append, Bool.not_or, Bool.and_comm]
set_option maxHeartbeats 4000000 in
theorem strip24_p (l : List Fld) (hl : FldOk l) : APure Tryd.prog 50 [.sl .no 2 (fldL l)] (.sl .no 2 (fldL (stripW l))) [] := by
  have hmx : maxLen = 9223372036854775807 := rfl
  have hll := hl.len
  have p1 := nom24_p l hl
  have hkeep := stripW_S l hl
  obtain ⟨nb, _⟩ := nomW_bound l hl
  generalize nomW l = n at *
  rw [hkeep]
  clear hkeep
  have eln := strL_len n
  have ell := fldL_len l
  refine APure.ofW rfl ?_
  refine ACalls.of_vc T_ok mixed Tryd.func50 rfl Tryd.call50 ?_
  refine .p rfl p1 ?_
  refine vc_loop [4, 5] (fun g vals st' => ∃ (k : Nat) (a : AV), k + g = l.length ∧ vals = [a, .i k] ∧ Acc 0 st'.tk 2 a (fldL (keptS n (l.take k)))) l.length rfl ⟨0, _, by omega, rfl, .nil⟩ ?_
  rintro g vals st' ⟨k, a, hk, rfl, hA⟩
  have elk := fldL_len (keptS n (l.take k))
  have elk2 : (keptS n (l.take k)).length ≤ 1000 := Nat.le_trans (List.length_filter_le _ _) (by rw [List.length_take]; omega)
  generalize hes : fldL (keptS n (l.take k)) = es at hA elk
  cases hA with
  | nil =>
    refine cnd_split (fun hd => ?_) (fun hd => ?_)
    · have hd := of_decide_eq_true hd
      have k1 : k < l.length := by omega
      have sz := hl.size l[k] (List.getElem_mem k1)
      have hsn := keptS_snoc n l k k1
      have pf := fixed24_p l[k].1 (by omega)
      have pr := foldR_p l[k].1 (by omega)
      generalize hF : memB namesL (foldB l[k].1) = F at pf hsn
      generalize foldB l[k].1 = t at pr hsn hF
      refine ⟨k, _, rfl, fldL_at k1, ?_⟩
      refine .p rfl pf ?_
      refine vc_loop [6, 7] (fun g2 vals st2 => ∃ (j : Nat) (z : Bool), j + g2 = n.length ∧ vals = [.b z, .i j] ∧ st2 = st' ∧ z = (!F && !memB (n.take j) t)) n.length rfl ⟨0, !F, by omega, rfl, rfl, by simp [memB]⟩ ?_
      rintro g2 vals st2 ⟨j, z, hj, rfl, rfl, hz⟩
      refine cnd_split (fun hd2 => ?_) (fun hd2 => ?_)
      · have hd2 := of_decide_eq_true hd2
        have j1 : j < n.length := by omega
        have hsm := memB_snoc n t j j1
        refine .x (by kernel_rfl) ?_
        cases z with
        | false =>
          intro c hc2
          rw [IntWalk.i64_in _ (by omega)] at hc2
          obtain rfl : c = ((j + 1 : Nat) : Int) := by omega
          refine ⟨g2 - 1, by omega, j + 1, false, by omega, rfl, rfl, ?_⟩
          rw [hsm, Bool.not_or, ← Bool.and_assoc, ← hz]; rfl
        | true =>
          refine ⟨k, _, rfl, fldL_at k1, ?_⟩
          refine .p rfl pr ?_
          refine ⟨j, _, rfl, strL_at j1, ?_⟩
          intro q hq
          have hq : q = false ↔ t = n[j] := hq
          intro c hc2
          rw [IntWalk.i64_in _ (by omega)] at hc2
          obtain rfl : c = ((j + 1 : Nat) : Int) := by omega
          refine ⟨g2 - 1, by omega, j + 1, q, by omega, rfl, rfl, ?_⟩
          rw [hsm, Bool.not_or, ← Bool.and_assoc, ← hz, Bool.true_and]
          cases q with
          | false => rw [decide_eq_true (hq.1 rfl).symm]; rfl
          | true => rw [decide_eq_false (fun e => by have := hq.2 e.symm; cases this)]; rfl
      · have hd2 := of_decide_eq_false hd2
        rw [List.take_of_length_le (by omega)] at hz
        rw [← hz] at hsn
        cases z with
        | false =>
          rw [if_neg (by decide), List.append_nil] at hsn
          intro c hc2
          rw [IntWalk.i64_in _ (by omega)] at hc2
          obtain rfl : c = ((k + 1 : Nat) : Int) := by omega
          exact ⟨g - 1, by omega, k + 1, _, by omega, rfl, by rw [hsn, hes]; exact .nil⟩
        | true =>
          rw [if_pos rfl] at hsn
          refine ⟨k, _, rfl, fldL_at k1, ?_⟩
          refine Acc.app (n := 0) (i := ti75) (es := []) .nil (Nat.zero_le _) (List.cons_ne_nil _ _) ?_ ?_ (fun t9 e9 tk9 z0 z1 z2 z3 => ?_)
          · show (([] : List (List AV)).length + 1) * 32 ≤ _; omega
          · show ([] : List (List AV)).length + 1 ≤ _; omega
          intro c hc2
          rw [IntWalk.i64_in _ (by omega)] at hc2
          obtain rfl : c = ((k + 1 : Nat) : Int) := by omega
          refine ⟨g - 1, by omega, k + 1, _, by omega, rfl, ?_⟩
          rw [hsn, ← fldL_app, hes]
          exact .own _ _ _ z0 z1
    · have hd := of_decide_eq_false hd
      rw [List.take_of_length_le (by omega)] at hes
      rw [hes]
      exact (.inr (.inl ⟨2, rfl, rfl⟩))
  | own t0 e0 es q0 q1 =>
    refine cnd_split (fun hd => ?_) (fun hd => ?_)
    · have hd := of_decide_eq_true hd
      have k1 : k < l.length := by omega
      have sz := hl.size l[k] (List.getElem_mem k1)
      have hsn := keptS_snoc n l k k1
      have pf := fixed24_p l[k].1 (by omega)
      have pr := foldR_p l[k].1 (by omega)
      generalize hF : memB namesL (foldB l[k].1) = F at pf hsn
      generalize foldB l[k].1 = t at pr hsn hF
      refine ⟨k, _, rfl, fldL_at k1, ?_⟩
      refine .p rfl pf ?_
      refine vc_loop [6, 7] (fun g2 vals st2 => ∃ (j : Nat) (z : Bool), j + g2 = n.length ∧ vals = [.b z, .i j] ∧ st2 = st' ∧ z = (!F && !memB (n.take j) t)) n.length rfl ⟨0, !F, by omega, rfl, rfl, by simp [memB]⟩ ?_
      rintro g2 vals st2 ⟨j, z, hj, rfl, rfl, hz⟩
      refine cnd_split (fun hd2 => ?_) (fun hd2 => ?_)
      · have hd2 := of_decide_eq_true hd2
        have j1 : j < n.length := by omega
        have hsm := memB_snoc n t j j1
        refine .x (by kernel_rfl) ?_
        cases z with
        | false =>
          intro c hc2
          rw [IntWalk.i64_in _ (by omega)] at hc2
          obtain rfl : c = ((j + 1 : Nat) : Int) := by omega
          refine ⟨g2 - 1, by omega, j + 1, false, by omega, rfl, rfl, ?_⟩
          rw [hsm, Bool.not_or, ← Bool.and_assoc, ← hz]; rfl
        | true =>
          refine ⟨k, _, rfl, fldL_at k1, ?_⟩
          refine .p rfl pr ?_
          refine ⟨j, _, rfl, strL_at j1, ?_⟩
          intro q hq
          have hq : q = false ↔ t = n[j] := hq
          intro c hc2
          rw [IntWalk.i64_in _ (by omega)] at hc2
          obtain rfl : c = ((j + 1 : Nat) : Int) := by omega
          refine ⟨g2 - 1, by omega, j + 1, q, by omega, rfl, rfl, ?_⟩
          rw [hsm, Bool.not_or, ← Bool.and_assoc, ← hz, Bool.true_and]
          cases q with
          | false => rw [decide_eq_true (hq.1 rfl).symm]; rfl
          | true => rw [decide_eq_false (fun e => by have := hq.2 e.symm; cases this)]; rfl
      · have hd2 := of_decide_eq_false hd2
        rw [List.take_of_length_le (by omega)] at hz
        rw [← hz] at hsn
        cases z with
        | false =>
          rw [if_neg (by decide), List.append_nil] at hsn
          intro c hc2
          rw [IntWalk.i64_in _ (by omega)] at hc2
          obtain rfl : c = ((k + 1 : Nat) : Int) := by omega
          exact ⟨g - 1, by omega, k + 1, _, by omega, rfl, by rw [hsn, hes]; exact (.own _ _ _ q0 q1)⟩
        | true =>
          rw [if_pos rfl] at hsn
          refine ⟨k, _, rfl, fldL_at k1, ?_⟩
          refine Acc.app (n := 0) (i := ti75) (es := es) (.own _ _ _ q0 q1) (Nat.zero_le _) (List.cons_ne_nil _ _) ?_ ?_ (fun t9 e9 tk9 z0 z1 z2 z3 => ?_)
          · show ((es : List (List AV)).length + 1) * 32 ≤ _; omega
          · show (es : List (List AV)).length + 1 ≤ _; omega
          intro c hc2
          rw [IntWalk.i64_in _ (by omega)] at hc2
          obtain rfl : c = ((k + 1 : Nat) : Int) := by omega
          refine ⟨g - 1, by omega, k + 1, _, by omega, rfl, ?_⟩
          rw [hsn, ← fldL_app, hes]
          exact .own _ _ _ z0 z1
    · have hd := of_decide_eq_false hd
      rw [List.take_of_length_le (by omega)] at hes
      rw [hes]
      exact (.inl rfl)
end
theorem hopStrips_p (l : List Fld) (name : ByteArray) (hn : name.size ≤ maxLen) : APure Tryd.prog 10 [.sl .no 2 (fldL l), .s name] (.b true) [] := by
  have hok := FldOk.few l
  have hlen := fewF_len l
  have fw := few_h 0 0 0 .empty .empty .empty l
  have f1 := fixed_p name hn
  have f2 := fixed24_p name hn
  have n1 := nom_p (fewF l) hok
  have n2 := nom24_p (fewF l) hok
  have s1 := strip_w (fewF l) hok
  have s2 := strip24_p (fewF l) hok
  have nb := (nomW_bound (fewF l) hok).1
  have sb : (stripW (fewF l)).length ≤ (fewF l).length := List.length_filter_le _ _
  have m1 := same6_p (nomW (fewF l)) (nomW (fewF l)) (by omega) (by omega)
  have m2 := same12_p (stripW (fewF l)) (stripW (fewF l)) (by omega) (by omega)
  rw [decide_eq_true rfl] at m1 m2
  generalize memB namesL (foldB name) = F at f1 f2
  generalize nomW (fewF l) = n at *
  generalize stripW (fewF l) = s at *
  generalize fewF l = fl at *
  refine APure.of rfl (ACalls.of_vc T_ok mixed Tryd.func10 rfl Tryd.call10 ?_)
  refine .p rfl awake24_p ?_
  refine .p rfl fw ?_
  refine .p rfl f1 ?_
  refine .p rfl f2 ?_
  refine cnd_split (fun h => ?_) (fun h => ?_)
  case refine_2 => exact absurd h (by cases F <;> decide)
  refine .p rfl n1 ?_
  refine .p rfl n2 ?_
  refine .p rfl m1 ?_
  refine .p rfl s1 ?_
  refine .p rfl s2 ?_
  refine .p rfl m2 ?_
  rfl
end Go.Proofs.YtopmflkeohicjaaDoor
