/- Names that are nominated; what goes on: the program. No statement of its own. -/
import Derived.Test.YtopmflkeohicjaaDoorHpA
set_option maxRecDepth 100000
namespace Go.Proofs.YtopmflkeohicjaaDoor
open Go.RowKit
def hostS : ByteArray := ⟨#[104, 111, 115, 116]⟩
def namesL : List ByteArray := [⟨#[99, 111, 110, 110, 101, 99, 116, 105, 111, 110]⟩, ⟨#[99, 111, 110, 116, 101, 110, 116, 45, 108, 101, 110, 103, 116, 104]⟩, ⟨#[107, 101, 101, 112, 45, 97, 108, 105, 118, 101]⟩, ⟨#[112, 114, 111, 120, 121, 45, 99, 111, 110, 110, 101, 99, 116, 105, 111, 110]⟩, ⟨#[116, 101]⟩, ⟨#[116, 114, 97, 105, 108, 101, 114]⟩, ⟨#[116, 114, 97, 110, 115, 102, 101, 114, 45, 101, 110, 99, 111, 100, 105, 110, 103]⟩, ⟨#[117, 112, 103, 114, 97, 100, 101]⟩]
def addN (out : List ByteArray) (t : ByteArray) : List ByteArray := if (decide (foldB t = hostS) || memB out (foldB t)) = true then out else out ++ [foldB t]
def nomV (out : List ByteArray) (x : ByteArray) : List ByteArray := ((tokW [x]).getD []).foldl addN out
/-- the names that are nominated -/
def nomW (l : List Fld) : List ByteArray := (valsW coS l).foldl nomV []
theorem argsW_ns (s : ByteArray) : ArgsW [.nilS, .s s] [.sl .no 1 [], .s s] := ⟨.inr ⟨rfl, 1, rfl⟩, .inl (.inl ⟨rfl, rfl⟩), trivial⟩
theorem tokW_sz {m : Nat} : ∀ (l o : List ByteArray), (∀ x ∈ l, x.size ≤ m) → tokW l = some o → ∀ y ∈ o, y.size ≤ m
  | [], o, _, h => by cases h; simp
  | x :: r, o, hl, h => by
    unfold tokW at h
    cases hs : splitW x with
    | none => rw [hs] at h; cases h
    | some p =>
      rw [hs] at h
      simp only at h
      split at h
      · cases hr : tokW r with
        | none => rw [hr] at h; cases h
        | some q =>
          rw [hr] at h
          cases h
          intro y hy
          rcases List.mem_append.1 hy with hy | hy
          · rcases (splW_bound _ 0 [] p rfl (Nat.zero_le _) hs).2 y hy with h1 | h1
            · simp at h1
            · exact Nat.le_trans h1 (hl x (.head _))
          · exact tokW_sz r q (fun z hz => hl z (.tail _ hz)) hr y hy
      · cases h
theorem names_p : APure Tryd.prog 99 [] (.sl .no 1 (strL namesL)) [] := by
  refine APure.of rfl (ACalls.of_vc T_ok mixed Tryd.func99 rfl Tryd.call99 ?_)
  rfl
theorem fixed_p (name : ByteArray) (hn : name.size ≤ maxLen) : APure Tryd.prog 43 [.s name] (.b (memB namesL (foldB name))) [] := by
  have hc := contains_p namesL (foldB name) (by decide)
  refine APure.of rfl (ACalls.of_vc T_ok mixed Tryd.func43 rfl Tryd.call43 ?_)
  refine .p rfl names_p ?_
  refine .p rfl (foldO_p name hn) ?_
  refine .p rfl hc ?_
  rfl
section
variable {st : St} {R : AV → St → Prop}
attribute [local irreducible] vcApp
set_option maxHeartbeats 4000000 in
theorem nomN_a (l : List Fld) (hl : FldOk l) (h : ∀ a st', Gr st st' → Acc st.tk.length st'.tk 1 a (strL (nomW l)) → R a st') : ACalls Tryd.prog 46 [.sl .no 2 (fldL l)] st R := by
  have hmx : maxLen = 9223372036854775807 := rfl
  have hll := hl.len
  have sC := valsW_congr CO_fold l
  have vc := hl.vlen coS
  have vcs := hl.vsize coS
  refine ACalls.of_vc T_ok mixed Tryd.func46 rfl Tryd.call46 ?_
  refine .s (newB_a l (by omega) ?_)
  refine .s (values_a l _ (by omega) hl.big (by decide) (last_at _ _) fun av st2 g2 av2 => ?_)
  rw [sC] at av2
  have g1 : Gr st ⟨st.heap ++ [[AV.sl Tk.no 2 (fldL l)]], st.tk⟩ := ⟨⟨_, rfl⟩, Nat.le_refl _, fun _ _ => rfl⟩
  have hG0 : Gr st st2 := g1.trans g2
  generalize hvv : valsW coS l = v at *
  have elv := strL_len v
  generalize hev : strL v = ev at av2
  cases av2 with
  | nil =>
    have hv0 : v = [] := (nil_len v).1 hev
    subst hv0
    refine vc_loop [3, 14] (fun g vals st' => vals = [.nilS, .i 0] ∧ st' = st2) 0 rfl ⟨rfl, rfl⟩ ?_
    rintro g vals st' ⟨rfl, rfl⟩
    refine h _ _ hG0 ?_
    unfold nomW
    rw [hvv]
    exact .nil
  | own t1 e1 ev w0 w1 =>
    subst hev
    refine vc_loop [3, 14] (fun g vals st' => ∃ (k : Nat) (a : AV) (out : List ByteArray), k + g = v.length ∧ vals = [a, .i k] ∧ Gr st st' ∧ Acc st.tk.length st'.tk 1 a (strL out) ∧ out.length ≤ k * 4001 ∧ (∀ x ∈ out, x.size ≤ 4000) ∧ out = (v.take k).foldl nomV []) v.length rfl ⟨0, _, [], by omega, rfl, hG0, .nil, by simp, by simp, rfl⟩ ?_
    rintro g vals st' ⟨k, a, out, hk, rfl, hG, hA, hol, hos, hout⟩
    have elo := strL_len out
    generalize hes : strL out = es at hA elo
    cases hA with
    | nil =>
      refine cnd_split (fun hd => ?_) (fun hd => ?_)
      · have hd := of_decide_eq_true hd
        have k1 : k < v.length := by omega
        have sz := vcs v[k] (List.getElem_mem k1)
        have hto := tokens_p [v[k]] (by simp) (fun x hx => by rw [List.mem_singleton.1 hx]; exact sz)
        unfold tokR at hto
        have hvn : (v.take (k + 1)).foldl nomV [] = ((tokW [v[k]]).getD []).foldl addN out := by rw [List.take_succ_eq_append_getElem k1, List.foldl_append, ← hout]; rfl
        refine ⟨k, _, rfl, strL_at k1, ?_⟩
        cases htw : tokW [v[k]] with
        | none =>
          rw [htw] at hto hvn
          refine .p rfl hto ?_
          refine vc_loop [3, 26] (fun g2 vals st2 => vals = [.nilS, .i 0] ∧ st2 = st') 0 rfl ⟨rfl, rfl⟩ ?_
          rintro g2 vals st2 ⟨rfl, rfl⟩
          intro c hc2
          rw [IntWalk.i64_in _ (by omega)] at hc2
          obtain rfl : c = ((k + 1 : Nat) : Int) := by omega
          exact ⟨g - 1, by omega, k + 1, _, out, by omega, rfl, hG, by rw [hes]; exact .nil, by rw [Nat.add_mul]; omega, hos, by rw [hvn]; rfl⟩
        | some p =>
          rw [htw] at hto hvn
          have hvn : (v.take (k + 1)).foldl nomV [] = p.foldl addN out := hvn
          have elp := strL_len p
          have psz := tokW_sz [v[k]] p (fun x hx => by rw [List.mem_singleton.1 hx]; exact sz) htw
          have pn : p.length ≤ 4001 := by have := (splW_bound _ 0 [] p rfl (Nat.zero_le _) (tokW_one htw)).1; simp at this; omega
          refine .p rfl hto ?_
          refine vc_loop [3, 26] (fun g2 vals st2 => ∃ (j : Nat) (a2 : AV) (o : List ByteArray), j + g2 = p.length ∧ vals = [a2, .i j] ∧ Gr st st2 ∧ Acc st.tk.length st2.tk 1 a2 (strL o) ∧ o.length ≤ k * 4001 + j ∧ (∀ x ∈ o, x.size ≤ 4000) ∧ o = (p.take j).foldl addN out) p.length rfl ⟨0, _, out, by omega, rfl, hG, by rw [hes]; exact .nil, by omega, hos, rfl⟩ ?_
          rintro g2 vals st2 ⟨j, a2, o, hj, rfl, hG2, hA2, hol, hos2, ho⟩
          have elo := strL_len o
          generalize heo : strL o = eo at hA2 elo
          cases hA2 with
          | nil =>
            refine cnd_split (fun hd2 => ?_) (fun hd2 => ?_)
            · have hd2 := of_decide_eq_true hd2
              have j1 : j < p.length := by omega
              have szj := psz p[j] (List.getElem_mem j1)
              have hc := contains_p o (foldB p[j]) (by omega)
              rw [heo] at hc
              have hst : (p.take (j + 1)).foldl addN out = addN o p[j] := by rw [List.take_succ_eq_append_getElem j1, List.foldl_append, ← ho]; rfl
              have hfs : (foldB p[j]).size ≤ 4000 := by rw [foldB_size]; exact szj
              unfold addN at hst
              generalize hm : memB o (foldB p[j]) = z at hc hst
              refine ⟨j, _, rfl, strL_at j1, ?_⟩
              refine .p rfl (foldO_p p[j] (by omega)) ?_
              intro b hb
              cases b with
              | false =>
                have e : foldB p[j] = hostS := hb.1 rfl
                rw [if_pos (by rw [decide_eq_true e]; rfl)] at hst
                intro c hc2
                rw [IntWalk.i64_in _ (by omega)] at hc2
                obtain rfl : c = ((j + 1 : Nat) : Int) := by omega
                exact ⟨g2 - 1, by omega, j + 1, _, o, by omega, rfl, hG2, by rw [heo]; exact .nil, by omega, hos2, hst.symm⟩
              | true =>
                have e : ¬ foldB p[j] = hostS := fun e => by have := hb.2 e; cases this
                rw [decide_eq_false e, Bool.false_or] at hst
                refine .w rfl (argsW_ns _) hc ?_
                cases z with
                | true =>
                  rw [if_pos rfl] at hst
                  intro c hc2
                  rw [IntWalk.i64_in _ (by omega)] at hc2
                  obtain rfl : c = ((j + 1 : Nat) : Int) := by omega
                  exact ⟨g2 - 1, by omega, j + 1, _, o, by omega, rfl, hG2, by rw [heo]; exact .nil, by omega, hos2, hst.symm⟩
                | false =>
                  rw [if_neg (by decide)] at hst
                  refine Acc.app (n := st.tk.length) (i := ti9) (es := []) .nil hG2.tl (List.cons_ne_nil _ _) ?_ ?_ (fun t9 e9 tk9 z0 z1 z2 z3 => ?_)
                  · show (([] : List (List AV)).length + 1) * 16 ≤ _; omega
                  · show ([] : List (List AV)).length + 1 ≤ _; omega
                  intro c hc2
                  rw [IntWalk.i64_in _ (by omega)] at hc2
                  obtain rfl : c = ((j + 1 : Nat) : Int) := by omega
                  refine ⟨g2 - 1, by omega, j + 1, _, o ++ [foldB p[j]], by omega, rfl, ⟨hG2.pre, z2, fun t ht => (z3 t ht).trans (hG2.tk t ht)⟩, ?_, by rw [List.length_append, List.length_singleton]; omega, fun x hx => ?_, hst.symm⟩
                  · rw [← strL_app, heo]
                    exact .own _ _ _ z0 z1
                  · rcases List.mem_append.1 hx with hx | hx
                    · exact hos2 x hx
                    · rw [List.mem_singleton.1 hx]; exact hfs
            · have hd2 := of_decide_eq_false hd2
              rw [List.take_of_length_le (by omega)] at ho
              intro c hc2
              rw [IntWalk.i64_in _ (by omega)] at hc2
              obtain rfl : c = ((k + 1 : Nat) : Int) := by omega
              exact ⟨g - 1, by omega, k + 1, _, o, by omega, rfl, hG2, by rw [heo]; exact .nil, by rw [Nat.add_mul]; omega, hos2, by rw [hvn, ho]⟩
          | own t5 e5 eo v0 v1 =>
            refine cnd_split (fun hd2 => ?_) (fun hd2 => ?_)
            · have hd2 := of_decide_eq_true hd2
              have j1 : j < p.length := by omega
              have szj := psz p[j] (List.getElem_mem j1)
              have hc := contains_p o (foldB p[j]) (by omega)
              rw [heo] at hc
              have hst : (p.take (j + 1)).foldl addN out = addN o p[j] := by rw [List.take_succ_eq_append_getElem j1, List.foldl_append, ← ho]; rfl
              have hfs : (foldB p[j]).size ≤ 4000 := by rw [foldB_size]; exact szj
              unfold addN at hst
              generalize hm : memB o (foldB p[j]) = z at hc hst
              refine ⟨j, _, rfl, strL_at j1, ?_⟩
              refine .p rfl (foldO_p p[j] (by omega)) ?_
              intro b hb
              cases b with
              | false =>
                have e : foldB p[j] = hostS := hb.1 rfl
                rw [if_pos (by rw [decide_eq_true e]; rfl)] at hst
                intro c hc2
                rw [IntWalk.i64_in _ (by omega)] at hc2
                obtain rfl : c = ((j + 1 : Nat) : Int) := by omega
                exact ⟨g2 - 1, by omega, j + 1, _, o, by omega, rfl, hG2, by rw [heo]; exact (.own _ _ _ v0 v1), by omega, hos2, hst.symm⟩
              | true =>
                have e : ¬ foldB p[j] = hostS := fun e => by have := hb.2 e; cases this
                rw [decide_eq_false e, Bool.false_or] at hst
                refine .p rfl hc ?_
                cases z with
                | true =>
                  rw [if_pos rfl] at hst
                  intro c hc2
                  rw [IntWalk.i64_in _ (by omega)] at hc2
                  obtain rfl : c = ((j + 1 : Nat) : Int) := by omega
                  exact ⟨g2 - 1, by omega, j + 1, _, o, by omega, rfl, hG2, by rw [heo]; exact (.own _ _ _ v0 v1), by omega, hos2, hst.symm⟩
                | false =>
                  rw [if_neg (by decide)] at hst
                  refine Acc.app (n := st.tk.length) (i := ti9) (es := eo) (.own _ _ _ v0 v1) hG2.tl (List.cons_ne_nil _ _) ?_ ?_ (fun t9 e9 tk9 z0 z1 z2 z3 => ?_)
                  · show ((eo : List (List AV)).length + 1) * 16 ≤ _; omega
                  · show (eo : List (List AV)).length + 1 ≤ _; omega
                  intro c hc2
                  rw [IntWalk.i64_in _ (by omega)] at hc2
                  obtain rfl : c = ((j + 1 : Nat) : Int) := by omega
                  refine ⟨g2 - 1, by omega, j + 1, _, o ++ [foldB p[j]], by omega, rfl, ⟨hG2.pre, z2, fun t ht => (z3 t ht).trans (hG2.tk t ht)⟩, ?_, by rw [List.length_append, List.length_singleton]; omega, fun x hx => ?_, hst.symm⟩
                  · rw [← strL_app, heo]
                    exact .own _ _ _ z0 z1
                  · rcases List.mem_append.1 hx with hx | hx
                    · exact hos2 x hx
                    · rw [List.mem_singleton.1 hx]; exact hfs
            · have hd2 := of_decide_eq_false hd2
              rw [List.take_of_length_le (by omega)] at ho
              intro c hc2
              rw [IntWalk.i64_in _ (by omega)] at hc2
              obtain rfl : c = ((k + 1 : Nat) : Int) := by omega
              exact ⟨g - 1, by omega, k + 1, _, o, by omega, rfl, hG2, by rw [heo]; exact (.own _ _ _ v0 v1), by rw [Nat.add_mul]; omega, hos2, by rw [hvn, ho]⟩
      · have hd := of_decide_eq_false hd
        rw [List.take_of_length_le (by omega)] at hout
        refine h _ _ hG ?_
        unfold nomW
        rw [hvv, ← hout, hes]
        exact .nil
    | own t0 e0 es q0 q1 =>
      refine cnd_split (fun hd => ?_) (fun hd => ?_)
      · have hd := of_decide_eq_true hd
        have k1 : k < v.length := by omega
        have sz := vcs v[k] (List.getElem_mem k1)
        have hto := tokens_p [v[k]] (by simp) (fun x hx => by rw [List.mem_singleton.1 hx]; exact sz)
        unfold tokR at hto
        have hvn : (v.take (k + 1)).foldl nomV [] = ((tokW [v[k]]).getD []).foldl addN out := by rw [List.take_succ_eq_append_getElem k1, List.foldl_append, ← hout]; rfl
        refine ⟨k, _, rfl, strL_at k1, ?_⟩
        cases htw : tokW [v[k]] with
        | none =>
          rw [htw] at hto hvn
          refine .p rfl hto ?_
          refine vc_loop [3, 26] (fun g2 vals st2 => vals = [(.sl (.own t0 e0) 1 es), .i 0] ∧ st2 = st') 0 rfl ⟨rfl, rfl⟩ ?_
          rintro g2 vals st2 ⟨rfl, rfl⟩
          intro c hc2
          rw [IntWalk.i64_in _ (by omega)] at hc2
          obtain rfl : c = ((k + 1 : Nat) : Int) := by omega
          exact ⟨g - 1, by omega, k + 1, _, out, by omega, rfl, hG, by rw [hes]; exact (.own _ _ _ q0 q1), by rw [Nat.add_mul]; omega, hos, by rw [hvn]; rfl⟩
        | some p =>
          rw [htw] at hto hvn
          have hvn : (v.take (k + 1)).foldl nomV [] = p.foldl addN out := hvn
          have elp := strL_len p
          have psz := tokW_sz [v[k]] p (fun x hx => by rw [List.mem_singleton.1 hx]; exact sz) htw
          have pn : p.length ≤ 4001 := by have := (splW_bound _ 0 [] p rfl (Nat.zero_le _) (tokW_one htw)).1; simp at this; omega
          refine .p rfl hto ?_
          refine vc_loop [3, 26] (fun g2 vals st2 => ∃ (j : Nat) (a2 : AV) (o : List ByteArray), j + g2 = p.length ∧ vals = [a2, .i j] ∧ Gr st st2 ∧ Acc st.tk.length st2.tk 1 a2 (strL o) ∧ o.length ≤ k * 4001 + j ∧ (∀ x ∈ o, x.size ≤ 4000) ∧ o = (p.take j).foldl addN out) p.length rfl ⟨0, _, out, by omega, rfl, hG, by rw [hes]; exact (.own _ _ _ q0 q1), by omega, hos, rfl⟩ ?_
          rintro g2 vals st2 ⟨j, a2, o, hj, rfl, hG2, hA2, hol, hos2, ho⟩
          have elo := strL_len o
          generalize heo : strL o = eo at hA2 elo
          cases hA2 with
          | nil =>
            refine cnd_split (fun hd2 => ?_) (fun hd2 => ?_)
            · have hd2 := of_decide_eq_true hd2
              have j1 : j < p.length := by omega
              have szj := psz p[j] (List.getElem_mem j1)
              have hc := contains_p o (foldB p[j]) (by omega)
              rw [heo] at hc
              have hst : (p.take (j + 1)).foldl addN out = addN o p[j] := by rw [List.take_succ_eq_append_getElem j1, List.foldl_append, ← ho]; rfl
              have hfs : (foldB p[j]).size ≤ 4000 := by rw [foldB_size]; exact szj
              unfold addN at hst
              generalize hm : memB o (foldB p[j]) = z at hc hst
              refine ⟨j, _, rfl, strL_at j1, ?_⟩
              refine .p rfl (foldO_p p[j] (by omega)) ?_
              intro b hb
              cases b with
              | false =>
                have e : foldB p[j] = hostS := hb.1 rfl
                rw [if_pos (by rw [decide_eq_true e]; rfl)] at hst
                intro c hc2
                rw [IntWalk.i64_in _ (by omega)] at hc2
                obtain rfl : c = ((j + 1 : Nat) : Int) := by omega
                exact ⟨g2 - 1, by omega, j + 1, _, o, by omega, rfl, hG2, by rw [heo]; exact .nil, by omega, hos2, hst.symm⟩
              | true =>
                have e : ¬ foldB p[j] = hostS := fun e => by have := hb.2 e; cases this
                rw [decide_eq_false e, Bool.false_or] at hst
                refine .w rfl (argsW_ns _) hc ?_
                cases z with
                | true =>
                  rw [if_pos rfl] at hst
                  intro c hc2
                  rw [IntWalk.i64_in _ (by omega)] at hc2
                  obtain rfl : c = ((j + 1 : Nat) : Int) := by omega
                  exact ⟨g2 - 1, by omega, j + 1, _, o, by omega, rfl, hG2, by rw [heo]; exact .nil, by omega, hos2, hst.symm⟩
                | false =>
                  rw [if_neg (by decide)] at hst
                  refine Acc.app (n := st.tk.length) (i := ti9) (es := []) .nil hG2.tl (List.cons_ne_nil _ _) ?_ ?_ (fun t9 e9 tk9 z0 z1 z2 z3 => ?_)
                  · show (([] : List (List AV)).length + 1) * 16 ≤ _; omega
                  · show ([] : List (List AV)).length + 1 ≤ _; omega
                  intro c hc2
                  rw [IntWalk.i64_in _ (by omega)] at hc2
                  obtain rfl : c = ((j + 1 : Nat) : Int) := by omega
                  refine ⟨g2 - 1, by omega, j + 1, _, o ++ [foldB p[j]], by omega, rfl, ⟨hG2.pre, z2, fun t ht => (z3 t ht).trans (hG2.tk t ht)⟩, ?_, by rw [List.length_append, List.length_singleton]; omega, fun x hx => ?_, hst.symm⟩
                  · rw [← strL_app, heo]
                    exact .own _ _ _ z0 z1
                  · rcases List.mem_append.1 hx with hx | hx
                    · exact hos2 x hx
                    · rw [List.mem_singleton.1 hx]; exact hfs
            · have hd2 := of_decide_eq_false hd2
              rw [List.take_of_length_le (by omega)] at ho
              intro c hc2
              rw [IntWalk.i64_in _ (by omega)] at hc2
              obtain rfl : c = ((k + 1 : Nat) : Int) := by omega
              exact ⟨g - 1, by omega, k + 1, _, o, by omega, rfl, hG2, by rw [heo]; exact .nil, by rw [Nat.add_mul]; omega, hos2, by rw [hvn, ho]⟩
          | own t5 e5 eo v0 v1 =>
            refine cnd_split (fun hd2 => ?_) (fun hd2 => ?_)
            · have hd2 := of_decide_eq_true hd2
              have j1 : j < p.length := by omega
              have szj := psz p[j] (List.getElem_mem j1)
              have hc := contains_p o (foldB p[j]) (by omega)
              rw [heo] at hc
              have hst : (p.take (j + 1)).foldl addN out = addN o p[j] := by rw [List.take_succ_eq_append_getElem j1, List.foldl_append, ← ho]; rfl
              have hfs : (foldB p[j]).size ≤ 4000 := by rw [foldB_size]; exact szj
              unfold addN at hst
              generalize hm : memB o (foldB p[j]) = z at hc hst
              refine ⟨j, _, rfl, strL_at j1, ?_⟩
              refine .p rfl (foldO_p p[j] (by omega)) ?_
              intro b hb
              cases b with
              | false =>
                have e : foldB p[j] = hostS := hb.1 rfl
                rw [if_pos (by rw [decide_eq_true e]; rfl)] at hst
                intro c hc2
                rw [IntWalk.i64_in _ (by omega)] at hc2
                obtain rfl : c = ((j + 1 : Nat) : Int) := by omega
                exact ⟨g2 - 1, by omega, j + 1, _, o, by omega, rfl, hG2, by rw [heo]; exact (.own _ _ _ v0 v1), by omega, hos2, hst.symm⟩
              | true =>
                have e : ¬ foldB p[j] = hostS := fun e => by have := hb.2 e; cases this
                rw [decide_eq_false e, Bool.false_or] at hst
                refine .p rfl hc ?_
                cases z with
                | true =>
                  rw [if_pos rfl] at hst
                  intro c hc2
                  rw [IntWalk.i64_in _ (by omega)] at hc2
                  obtain rfl : c = ((j + 1 : Nat) : Int) := by omega
                  exact ⟨g2 - 1, by omega, j + 1, _, o, by omega, rfl, hG2, by rw [heo]; exact (.own _ _ _ v0 v1), by omega, hos2, hst.symm⟩
                | false =>
                  rw [if_neg (by decide)] at hst
                  refine Acc.app (n := st.tk.length) (i := ti9) (es := eo) (.own _ _ _ v0 v1) hG2.tl (List.cons_ne_nil _ _) ?_ ?_ (fun t9 e9 tk9 z0 z1 z2 z3 => ?_)
                  · show ((eo : List (List AV)).length + 1) * 16 ≤ _; omega
                  · show (eo : List (List AV)).length + 1 ≤ _; omega
                  intro c hc2
                  rw [IntWalk.i64_in _ (by omega)] at hc2
                  obtain rfl : c = ((j + 1 : Nat) : Int) := by omega
                  refine ⟨g2 - 1, by omega, j + 1, _, o ++ [foldB p[j]], by omega, rfl, ⟨hG2.pre, z2, fun t ht => (z3 t ht).trans (hG2.tk t ht)⟩, ?_, by rw [List.length_append, List.length_singleton]; omega, fun x hx => ?_, hst.symm⟩
                  · rw [← strL_app, heo]
                    exact .own _ _ _ z0 z1
                  · rcases List.mem_append.1 hx with hx | hx
                    · exact hos2 x hx
                    · rw [List.mem_singleton.1 hx]; exact hfs
            · have hd2 := of_decide_eq_false hd2
              rw [List.take_of_length_le (by omega)] at ho
              intro c hc2
              rw [IntWalk.i64_in _ (by omega)] at hc2
              obtain rfl : c = ((k + 1 : Nat) : Int) := by omega
              exact ⟨g - 1, by omega, k + 1, _, o, by omega, rfl, hG2, by rw [heo]; exact (.own _ _ _ v0 v1), by rw [Nat.add_mul]; omega, hos2, by rw [hvn, ho]⟩
      · have hd := of_decide_eq_false hd
        rw [List.take_of_length_le (by omega)] at hout
        refine h _ _ hG ?_
        unfold nomW
        rw [hvv, ← hout, hes]
        exact (.own _ _ _ q0 q1)
end
theorem nomW_bound (l : List Fld) (hl : FldOk l) : (nomW l).length ≤ 4001000 ∧ ∀ x ∈ nomW l, x.size ≤ 4000 ∧ foldB x = x := by
  have add : ∀ (p out : List ByteArray), (∀ x ∈ p, x.size ≤ 4000) → (∀ x ∈ out, x.size ≤ 4000 ∧ foldB x = x) → (p.foldl addN out).length ≤ out.length + p.length ∧ ∀ x ∈ p.foldl addN out, x.size ≤ 4000 ∧ foldB x = x := by
    intro p
    induction p with
    | nil => intro out _ h; exact ⟨by simp, h⟩
    | cons t r ih =>
      intro out hp ho
      rw [List.foldl_cons]
      have : (addN out t).length ≤ out.length + 1 ∧ ∀ x ∈ addN out t, x.size ≤ 4000 ∧ foldB x = x := by
        unfold addN
        split
        · exact ⟨by omega, ho⟩
        · refine ⟨by simp, fun x hx => ?_⟩
          rcases List.mem_append.1 hx with hx | hx
          · exact ho x hx
          · rw [List.mem_singleton.1 hx, foldB_size, foldB_foldB]
            exact ⟨hp t (.head _), rfl⟩
      obtain ⟨i1, i2⟩ := ih (addN out t) (fun x hx => hp x (.tail _ hx)) this.2
      exact ⟨by rw [List.length_cons]; omega, i2⟩
  have all : ∀ (v out : List ByteArray), (∀ x ∈ v, x.size ≤ 4000) → (∀ x ∈ out, x.size ≤ 4000 ∧ foldB x = x) → (v.foldl nomV out).length ≤ out.length + v.length * 4001 ∧ ∀ x ∈ v.foldl nomV out, x.size ≤ 4000 ∧ foldB x = x := by
    intro v
    induction v with
    | nil => intro out _ h; exact ⟨by simp, h⟩
    | cons x r ih =>
      intro out hv ho
      rw [List.foldl_cons]
      have : (nomV out x).length ≤ out.length + 4001 ∧ ∀ y ∈ nomV out x, y.size ≤ 4000 ∧ foldB y = y := by
        unfold nomV
        cases htw : tokW [x] with
        | none => exact ⟨by simp, ho⟩
        | some p =>
          have psz := tokW_sz [x] p (fun y hy => by rw [List.mem_singleton.1 hy]; exact hv x (.head _)) htw
          have pn : p.length ≤ 4001 := by
            have h1 := (splW_bound _ 0 [] p rfl (Nat.zero_le _) (tokW_one htw)).1
            have h2 := hv x (.head _)
            simp at h1
            omega
          obtain ⟨i1, i2⟩ := add p out psz ho
          exact ⟨by show (p.foldl addN out).length ≤ _; omega, i2⟩
      obtain ⟨i1, i2⟩ := ih (nomV out x) (fun y hy => hv y (.tail _ hy)) this.2
      refine ⟨?_, i2⟩
      rw [List.length_cons, Nat.add_mul]
      omega
  obtain ⟨h1, h2⟩ := all (valsW coS l) [] (hl.vsize coS) (by simp)
  have h3 := hl.vlen coS
  have h4 : (valsW coS l).length * 4001 ≤ 1000 * 4001 := Nat.mul_le_mul_right _ h3
  exact ⟨by unfold nomW; simp at h1; omega, h2⟩
theorem nom_p (l : List Fld) (hl : FldOk l) : APure Tryd.prog 46 [.sl .no 2 (fldL l)] (.sl .no 1 (strL (nomW l))) [] := by
  refine APure.ofW rfl (nomN_a l hl fun a st' _ hA => ?_)
  generalize strL (nomW l) = es at hA
  cases hA with
  | nil => exact .inr (.inl ⟨1, rfl, rfl⟩)
  | own t e es _ _ => exact .inl rfl
/-- what goes on -/
def stripW (l : List Fld) : List Fld := keptW (nomW l ++ namesL) l
section
attribute [local irreducible] vcApp
theorem strip_w (l : List Fld) (hl : FldOk l) : APure Tryd.prog 49 [.sl .no 2 (fldL l)] (.sl .no 2 (fldL (stripW l))) [] := by
  have hmx : maxLen = 9223372036854775807 := rfl
  have hll := hl.len
  obtain ⟨nb, ns⟩ := nomW_bound l hl
  have nok : NmOk (nomW l ++ namesL) := ⟨by rw [List.length_append]; have : namesL.length = 8 := rfl; omega, fun x hx => by
    rcases List.mem_append.1 hx with hx | hx
    · have := (ns x hx).1; omega
    · exact Nat.le_trans ((by decide : ∀ x ∈ namesL, x.size ≤ 100) x hx) (by decide)⟩
  have kl : (stripW l).length ≤ l.length := List.length_filter_le _ _
  have eln := strL_len (nomW l)
  refine APure.ofW rfl ?_
  refine ACalls.of_vc T_ok mixed Tryd.func49 rfl Tryd.call49 ?_
  refine .s (newH_a l (by omega) fun b st1 g1 hb => ?_)
  refine .s (nomN_a l hl fun a st2 g2 hA => ?_)
  refine .p rfl names_p ?_
  refine Acc.appL (n := st1.tk.length) (i := ti9) hA g2.tl ?_ ?_ (fun a2 tk2 hA2 => ?_)
  · show ((strL (nomW l)).length + 8) * 16 ≤ _; omega
  · show (strL (nomW l)).length + 8 ≤ _; omega
  have hb2 : HBag st2 b l := by
    obtain ⟨x, h1, h2⟩ := hb
    exact ⟨x, g2.pre.at' h1, h2.pre g2.pre⟩
  have hb3 : HBag ⟨st2.heap, tk2⟩ b l := by
    obtain ⟨x, h1, h2⟩ := hb2
    exact ⟨x, h1, h2.pre ⟨[], by simp⟩⟩
  have hes : strL (nomW l) ++ strL namesL = strL (nomW l ++ namesL) := by simp [strL]
  generalize hx : strL (nomW l) ++ strL namesL = xs at hA2
  cases hA2 with
  | nil => rw [hes] at hx; have := congrArg List.length hx; rw [strL_len, List.length_append] at this; simp [namesL] at this
  | own t0 e0 xs q0 q1 =>
    rw [hes] at hx
    subst hx
    refine .s (remove_a (nomW l ++ namesL) nok l (by omega) (fun f hf => (hl.big f hf).1) hb3 fun st4 hb4 => ?_)
    refine .s (listH_a (stripW l) (by omega) hb4 fun a5 st5 g5 h5 => ?_)
    rcases h5 with ⟨rfl, h5⟩ | ⟨tg, rfl⟩
    · rw [h5]
      exact .inr (.inl ⟨2, rfl, rfl⟩)
    · exact .inl rfl
end
end Go.Proofs.YtopmflkeohicjaaDoor
