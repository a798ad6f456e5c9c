/- How bodies end: the document. No statement of its own. -/
import Derived.Test.YtopmflkeohicjaaDoorLn2
set_option maxRecDepth 100000
namespace Go.Proofs.YtopmflkeohicjaaDoor
open Go.RowKit
/-- numbers in a row -/
def intL (o : List Nat) : List (List AV) := o.map fun n => [AV.i (n : Nat)]
theorem intL_len (o : List Nat) : (intL o).length = o.length := by simp [intL]
theorem intL_at {o : List Nat} {j : Nat} (h : j < o.length) : (intL o)[j]? = some [.i (o[j] : Nat)] := by simp [intL, h]
theorem intL_app (o : List Nat) (n : Nat) : intL o ++ [[.i n]] = intL (o ++ [n]) := by simp [intL]
abbrev hdC (k c mi : Int) (m t r : ByteArray) (row : AV) : List AV := [.i k, .s m, .s t, .i c, .s r, .i mi, row]
section
attribute [local irreducible] vcApp
set_option maxHeartbeats 4000000 in
theorem of17_p (k0 c mi none : Int) (m t r : ByteArray) (l : List Fld) (hl : FldOk l) : APure Tryd.prog 28 [hdA k0 c mi m t r (.sl .no 2 (fldL l)), .i none] (frA (ofW l mi none)) [] := by
  have hmx : maxLen = 9223372036854775807 := rfl
  have hmb : (mostB : Int) = 1099511627776 := rfl
  have hll := hl.len
  have p1 := vals13_p l teS (by omega) hl.big (by decide)
  have p2 := vals13_p l clS (by omega) hl.big (by decide)
  have vt := hl.vlen teS
  have vts := hl.vsize teS
  have vc := hl.vlen clS
  have vcs := hl.vsize clS
  have hE : ofW l mi none = if valsW teS l = [] then (if valsW clS l = [] then (none, 0, 0) else lenOf (numsW (valsW clS l))) else if valsW clS l = [] then codW (valsW teS l) mi else errF 29 := rfl
  generalize valsW teS l = te at p1 vt vts hE
  generalize valsW clS l = cl at p2 vc vcs hE
  generalize ofW l mi none = Z at hE
  have elt := strL_len te
  have elc := strL_len cl
  refine APure.of rfl (ACalls.of_vc T_ok mixed Tryd.func28 rfl Tryd.call28 ?_)
  refine ⟨_, rfl, ?_⟩
  refine .p rfl p1 ?_
  refine ⟨_, rfl, ?_⟩
  refine .p rfl p2 ?_
  refine cnd_split (fun ht => ?_) (fun ht => ?_)
  · have ht' := of_decide_eq_true ht
    rw [if_neg (fun e => by rw [e] at ht'; exact absurd ht' (by decide))] at hE
    refine cnd_split (fun hc => ?_) (fun hc => ?_)
    · have hc' := of_decide_eq_true hc
      rw [if_neg (fun e => by rw [e] at hc'; exact absurd hc' (by decide))] at hE
      refine ⟨_, rfl, ?_⟩
      refine ⟨_, rfl, ?_⟩
      exact (by rw [hE]; rfl)
    · have hc' := of_decide_eq_false hc
      rw [if_pos (List.eq_nil_of_length_eq_zero (by omega))] at hE
      refine cnd_split (fun ht2 => ?_) (fun ht2 => ?_)
      · have hto := tokensR_p te vt vts
        unfold tokR at hto
        unfold codW at hE
        cases hw : tokW te with
        | none =>
          rw [hw] at hto hE
          refine .p rfl hto ?_
          refine ⟨_, rfl, ?_⟩
          refine ⟨_, rfl, ?_⟩
          exact (by rw [hE]; rfl)
        | some o =>
          rw [hw] at hto
          have eo := strL_len o
          have hC : Z = if mi ≠ 0 ∧ o.length = 1 ∧ (∀ x ∈ o, foldB x = foldB chkS) then (3, 0, 0) else errF 30 := by
            rw [hE, hw]
            match o with
            | [] => simp
            | [x] => simp
            | x :: y :: r => simp
          refine .p rfl hto ?_
          refine ⟨_, rfl, ?_⟩
          refine cnd_split (fun h1 => ?_) (fun h1 => ?_)
          · have h1 : mi = 0 := beq_iff_eq.1 h1
            rw [if_neg (fun h => h.1 h1)] at hC
            clear hE
            have hE := hC
            refine ⟨_, rfl, ?_⟩
            refine ⟨_, rfl, ?_⟩
            exact (by rw [hE]; rfl)
          · have h1 : ¬ mi = 0 := beq_eq_false_iff_ne.1 h1
            refine cnd_split (fun h2 => ?_) (fun h2 => ?_)
            · have h2 : ¬ ((strL o).length : Int) = 1 := by simpa using h2
              rw [if_neg (fun h => h2 (by omega))] at hC
              clear hE
              have hE := hC
              refine ⟨_, rfl, ?_⟩
              refine ⟨_, rfl, ?_⟩
              exact (by rw [hE]; rfl)
            · have h2 : ((strL o).length : Int) = 1 := by simpa using h2
              have ol : o.length = 1 := by omega
              obtain ⟨x, rfl⟩ := List.length_eq_one_iff.1 ol
              have hx := tokW_size te [x] vts hw x (.head _)
              refine ⟨0, _, rfl, strL_at (l := [x]) (j := 0) Nat.zero_lt_one, ?_⟩
              refine .p rfl (foldR_p x (by omega)) ?_
              intro b hb
              have hb : b = false ↔ foldB x = foldB chkS := hb
              cases b with
              | true =>
                rw [if_neg (fun h => by have := hb.2 (h.2.2 x (.head _)); cases this)] at hC
                clear hE
                have hE := hC
                refine ⟨_, rfl, ?_⟩
                refine ⟨_, rfl, ?_⟩
                exact (by rw [hE]; rfl)
              | false =>
                rw [if_pos ⟨h1, rfl, fun y hy => by rw [List.mem_singleton.1 hy]; exact hb.1 rfl⟩] at hC
                clear hE
                have hE := hC
                refine ⟨_, rfl, ?_⟩
                refine ⟨_, rfl, ?_⟩
                exact (by rw [hE]; rfl)
      · rw [ht] at ht2; cases ht2
  · have ht' := of_decide_eq_false ht
    rw [if_pos (List.eq_nil_of_length_eq_zero (by omega))] at hE
    refine cnd_split (fun ht2 => ?_) (fun ht2 => ?_)
    · rw [ht] at ht2; cases ht2
    refine cnd_split (fun hc => ?_) (fun hc => ?_)
    · have hc' : ((strL cl).length : Int) = 0 := by simpa using hc
      rw [if_pos (List.eq_nil_of_length_eq_zero (by omega))] at hE
      refine ⟨_, rfl, ?_⟩
      refine ⟨_, rfl, ?_⟩
      exact (by rw [hE]; rfl)
    · have hc' : ¬ ((strL cl).length : Int) = 0 := by simpa using hc
      rw [if_neg (fun e => by rw [e] at hc'; exact hc' rfl)] at hE
      refine vc_loop [10, 11] (fun g vals st' => ∃ (k : Nat) (a : AV) (o : List Nat) (tk' : List Nat), k + g = cl.length ∧ vals = [a, .i k] ∧ st' = ⟨[hdC k0 c mi m t r (.sl .no 2 (fldL l)), [.i 0, .i 0]], tk'⟩ ∧ Acc 0 tk' 1 a (intL o) ∧ o.length ≤ k * 4001 ∧ numsW cl = (numsW (cl.drop k)).map (o ++ ·)) cl.length rfl ⟨0, _, [], _, by omega, rfl, rfl, .nil, by simp, by simp⟩ ?_
      rintro g vals st' ⟨k, a, o, tk', hk, rfl, rfl, hA, hol, hW⟩
      have el1 := intL_len o
      generalize hes : intL o = es at hA el1
      cases hA with
      | nil =>
        refine cnd_split (fun hd => ?_) (fun hd => ?_)
        · have hd := of_decide_eq_true hd
          have k1 : k < cl.length := by omega
          have sz := vcs cl[k] (List.getElem_mem k1)
          have ps := split6_p cl[k] (by omega)
          unfold splR at ps
          rw [numsW_at k1] at hW
          refine ⟨k, _, rfl, strL_at k1, ?_⟩
          cases hsp : splitW cl[k] with
          | none =>
            rw [hsp] at ps hW
            refine .p rfl ps ?_
            refine ⟨_, rfl, ?_⟩
            refine ⟨_, rfl, ?_⟩
            exact (by rw [hE, hW]; rfl)
          | some p =>
            rw [hsp] at ps hW
            have elp := strL_len p
            have pb := splW_bound _ 0 [] p rfl (Nat.zero_le _) hsp
            have pn : p.length ≤ 4001 := by have := pb.1; simp at this; omega
            refine .p rfl ps ?_
            refine vc_loop [10, 14] (fun g2 vals st2 => ∃ (j : Nat) (a : AV) (q : List Nat) (tk' : List Nat), j + g2 = p.length ∧ vals = [a, .i j] ∧ st2 = ⟨[hdC k0 c mi m t r (.sl .no 2 (fldL l)), [.i 0, .i 0]], tk'⟩ ∧ Acc 0 tk' 1 a (intL q) ∧ q.length ≤ k * 4001 + j ∧ numsW cl = (restN (p.drop j) (numsW (cl.drop (k + 1)))).map (q ++ ·)) p.length rfl ⟨0, _, o, _, by omega, rfl, rfl, by rw [hes]; exact .nil, by omega, hW⟩ ?_
            rintro g2 vals st2 ⟨j, a2, q, tk2, hj, rfl, rfl, hA2, hql, hW⟩
            have elq := intL_len q
            generalize heq : intL q = es2 at hA2 elq
            cases hA2 with
            | nil =>
              refine cnd_split (fun hd2 => ?_) (fun hd2 => ?_)
              · have hd2 := of_decide_eq_true hd2
                have j1 : j < p.length := by omega
                have szj : p[j].size ≤ 4000 := by
                  rcases pb.2 p[j] (List.getElem_mem j1) with h | h
                  · simp at h
                  · omega
                have hdec := r3Read_p 10 (by omega) (by omega) p[j] (by omega) mostB (by decide)
                rw [restN_at j1] at hW
                refine ⟨j, _, rfl, strL_at j1, ?_⟩
                refine .p rfl hdec ?_
                cases hnm : num1 p[j] with
                | none =>
                  have h2 := num1_none hnm
                  rw [hnm] at hW
                  refine cnd_split (fun h3 => ?_) (fun h3 => ?_)
                  · refine ⟨_, rfl, ?_⟩
                    refine ⟨_, rfl, ?_⟩
                    exact (by rw [hE, hW]; rfl)
                  · exact absurd (show (readG 10 p[j] mostB).2 = 0 by simpa using h3) h2
                | some n =>
                  obtain ⟨e0, e1, e2⟩ := num1_some hnm
                  rw [hnm] at hW
                  rw [e0, e1]
                  have hW' : numsW cl = (restN (p.drop (j + 1)) (numsW (cl.drop (k + 1)))).map ((q ++ [n]) ++ ·) := by
                    rw [hW]
                    cases restN (p.drop (j + 1)) (numsW (cl.drop (k + 1))) <;> simp
                  refine Acc.app (n := 0) (i := ti3) (es := []) .nil (Nat.zero_le _) (List.cons_ne_nil _ _) ?_ ?_ (fun t9 e9 tk9 z0 z1 z2 z3 => ?_)
                  · show (([] : List (List AV)).length + 1) * 8 ≤ _; omega
                  · show ([] : List (List AV)).length + 1 ≤ _; omega
                  intro c hc
                  rw [IntWalk.i64_in _ (by omega)] at hc
                  obtain rfl : c = ((j + 1 : Nat) : Int) := by omega
                  exact ⟨g2 - 1, by omega, j + 1, _, q ++ [n], _, by omega, rfl, rfl, by rw [← intL_app, heq]; exact .own _ _ _ z0 z1, by rw [List.length_append, List.length_singleton]; omega, hW'⟩
              · have hd2 := of_decide_eq_false hd2
                have : p.drop j = [] := List.drop_of_length_le (by omega)
                rw [this] at hW
                intro c hc
                rw [IntWalk.i64_in _ (by omega)] at hc
                obtain rfl : c = ((k + 1 : Nat) : Int) := by omega
                exact ⟨g - 1, by omega, k + 1, _, q, _, by omega, rfl, rfl, by rw [heq]; exact .nil, by rw [Nat.add_mul]; omega, hW⟩
            | own t5 e5 es2 v0 v1 =>
              refine cnd_split (fun hd2 => ?_) (fun hd2 => ?_)
              · have hd2 := of_decide_eq_true hd2
                have j1 : j < p.length := by omega
                have szj : p[j].size ≤ 4000 := by
                  rcases pb.2 p[j] (List.getElem_mem j1) with h | h
                  · simp at h
                  · omega
                have hdec := r3Read_p 10 (by omega) (by omega) p[j] (by omega) mostB (by decide)
                rw [restN_at j1] at hW
                refine ⟨j, _, rfl, strL_at j1, ?_⟩
                refine .p rfl hdec ?_
                cases hnm : num1 p[j] with
                | none =>
                  have h2 := num1_none hnm
                  rw [hnm] at hW
                  refine cnd_split (fun h3 => ?_) (fun h3 => ?_)
                  · refine ⟨_, rfl, ?_⟩
                    refine ⟨_, rfl, ?_⟩
                    exact (by rw [hE, hW]; rfl)
                  · exact absurd (show (readG 10 p[j] mostB).2 = 0 by simpa using h3) h2
                | some n =>
                  obtain ⟨e0, e1, e2⟩ := num1_some hnm
                  rw [hnm] at hW
                  rw [e0, e1]
                  have hW' : numsW cl = (restN (p.drop (j + 1)) (numsW (cl.drop (k + 1)))).map ((q ++ [n]) ++ ·) := by
                    rw [hW]
                    cases restN (p.drop (j + 1)) (numsW (cl.drop (k + 1))) <;> simp
                  refine Acc.app (n := 0) (i := ti3) (es := es2) (.own _ _ _ v0 v1) (Nat.zero_le _) (List.cons_ne_nil _ _) ?_ ?_ (fun t9 e9 tk9 z0 z1 z2 z3 => ?_)
                  · show ((es2 : List (List AV)).length + 1) * 8 ≤ _; omega
                  · show (es2 : List (List AV)).length + 1 ≤ _; omega
                  intro c hc
                  rw [IntWalk.i64_in _ (by omega)] at hc
                  obtain rfl : c = ((j + 1 : Nat) : Int) := by omega
                  exact ⟨g2 - 1, by omega, j + 1, _, q ++ [n], _, by omega, rfl, rfl, by rw [← intL_app, heq]; exact .own _ _ _ z0 z1, by rw [List.length_append, List.length_singleton]; omega, hW'⟩
              · have hd2 := of_decide_eq_false hd2
                have : p.drop j = [] := List.drop_of_length_le (by omega)
                rw [this] at hW
                intro c hc
                rw [IntWalk.i64_in _ (by omega)] at hc
                obtain rfl : c = ((k + 1 : Nat) : Int) := by omega
                exact ⟨g - 1, by omega, k + 1, _, q, _, by omega, rfl, rfl, by rw [heq]; exact (.own _ _ _ v0 v1), by rw [Nat.add_mul]; omega, hW⟩
        · have hd := of_decide_eq_false hd
          have : cl.drop k = [] := List.drop_of_length_le (by omega)
          rw [this] at hW
          simp only [numsW, Option.map_some, List.append_nil] at hW
          rw [hW] at hE
          have ell := intL_len o
          have iat : ∀ {i : Nat} (hi : i < o.length), ([] : List (List AV))[i]? = some [.i (o[i] : Nat)] := fun {i} hi => by rw [← hes]; exact intL_at hi
          refine vc_loop [17] (fun g vals st' => ∃ (i : Nat), i + g = o.length ∧ vals = [.i i] ∧ st' = ⟨[hdC k0 c mi m t r (.sl .no 2 (fldL l)), [.i 0, .i 0]], tk'⟩ ∧ ∀ j (hj : j < o.length) (h0 : 0 < o.length), j < i → o[j] = o[0]) o.length rfl ⟨0, by omega, rfl, rfl, fun j _ _ h => absurd h (by omega)⟩ ?_
          rintro g vals st' ⟨i, hi, rfl, rfl, hall⟩
          have : o = [] := List.eq_nil_of_length_eq_zero (by rw [← el1]; rfl)
          subst this
          refine ⟨_, rfl, ?_⟩
          refine ⟨_, rfl, ?_⟩
          exact (by rw [hE]; rfl)
      | own t0 e0 es q0 q1 =>
        refine cnd_split (fun hd => ?_) (fun hd => ?_)
        · have hd := of_decide_eq_true hd
          have k1 : k < cl.length := by omega
          have sz := vcs cl[k] (List.getElem_mem k1)
          have ps := split6_p cl[k] (by omega)
          unfold splR at ps
          rw [numsW_at k1] at hW
          refine ⟨k, _, rfl, strL_at k1, ?_⟩
          cases hsp : splitW cl[k] with
          | none =>
            rw [hsp] at ps hW
            refine .p rfl ps ?_
            refine ⟨_, rfl, ?_⟩
            refine ⟨_, rfl, ?_⟩
            exact (by rw [hE, hW]; rfl)
          | some p =>
            rw [hsp] at ps hW
            have elp := strL_len p
            have pb := splW_bound _ 0 [] p rfl (Nat.zero_le _) hsp
            have pn : p.length ≤ 4001 := by have := pb.1; simp at this; omega
            refine .p rfl ps ?_
            refine vc_loop [10, 14] (fun g2 vals st2 => ∃ (j : Nat) (a : AV) (q : List Nat) (tk' : List Nat), j + g2 = p.length ∧ vals = [a, .i j] ∧ st2 = ⟨[hdC k0 c mi m t r (.sl .no 2 (fldL l)), [.i 0, .i 0]], tk'⟩ ∧ Acc 0 tk' 1 a (intL q) ∧ q.length ≤ k * 4001 + j ∧ numsW cl = (restN (p.drop j) (numsW (cl.drop (k + 1)))).map (q ++ ·)) p.length rfl ⟨0, _, o, _, by omega, rfl, rfl, by rw [hes]; exact (.own _ _ _ q0 q1), by omega, hW⟩ ?_
            rintro g2 vals st2 ⟨j, a2, q, tk2, hj, rfl, rfl, hA2, hql, hW⟩
            have elq := intL_len q
            generalize heq : intL q = es2 at hA2 elq
            cases hA2 with
            | nil =>
              refine cnd_split (fun hd2 => ?_) (fun hd2 => ?_)
              · have hd2 := of_decide_eq_true hd2
                have j1 : j < p.length := by omega
                have szj : p[j].size ≤ 4000 := by
                  rcases pb.2 p[j] (List.getElem_mem j1) with h | h
                  · simp at h
                  · omega
                have hdec := r3Read_p 10 (by omega) (by omega) p[j] (by omega) mostB (by decide)
                rw [restN_at j1] at hW
                refine ⟨j, _, rfl, strL_at j1, ?_⟩
                refine .p rfl hdec ?_
                cases hnm : num1 p[j] with
                | none =>
                  have h2 := num1_none hnm
                  rw [hnm] at hW
                  refine cnd_split (fun h3 => ?_) (fun h3 => ?_)
                  · refine ⟨_, rfl, ?_⟩
                    refine ⟨_, rfl, ?_⟩
                    exact (by rw [hE, hW]; rfl)
                  · exact absurd (show (readG 10 p[j] mostB).2 = 0 by simpa using h3) h2
                | some n =>
                  obtain ⟨e0, e1, e2⟩ := num1_some hnm
                  rw [hnm] at hW
                  rw [e0, e1]
                  have hW' : numsW cl = (restN (p.drop (j + 1)) (numsW (cl.drop (k + 1)))).map ((q ++ [n]) ++ ·) := by
                    rw [hW]
                    cases restN (p.drop (j + 1)) (numsW (cl.drop (k + 1))) <;> simp
                  refine Acc.app (n := 0) (i := ti3) (es := []) .nil (Nat.zero_le _) (List.cons_ne_nil _ _) ?_ ?_ (fun t9 e9 tk9 z0 z1 z2 z3 => ?_)
                  · show (([] : List (List AV)).length + 1) * 8 ≤ _; omega
                  · show ([] : List (List AV)).length + 1 ≤ _; omega
                  intro c hc
                  rw [IntWalk.i64_in _ (by omega)] at hc
                  obtain rfl : c = ((j + 1 : Nat) : Int) := by omega
                  exact ⟨g2 - 1, by omega, j + 1, _, q ++ [n], _, by omega, rfl, rfl, by rw [← intL_app, heq]; exact .own _ _ _ z0 z1, by rw [List.length_append, List.length_singleton]; omega, hW'⟩
              · have hd2 := of_decide_eq_false hd2
                have : p.drop j = [] := List.drop_of_length_le (by omega)
                rw [this] at hW
                intro c hc
                rw [IntWalk.i64_in _ (by omega)] at hc
                obtain rfl : c = ((k + 1 : Nat) : Int) := by omega
                exact ⟨g - 1, by omega, k + 1, _, q, _, by omega, rfl, rfl, by rw [heq]; exact .nil, by rw [Nat.add_mul]; omega, hW⟩
            | own t5 e5 es2 v0 v1 =>
              refine cnd_split (fun hd2 => ?_) (fun hd2 => ?_)
              · have hd2 := of_decide_eq_true hd2
                have j1 : j < p.length := by omega
                have szj : p[j].size ≤ 4000 := by
                  rcases pb.2 p[j] (List.getElem_mem j1) with h | h
                  · simp at h
                  · omega
                have hdec := r3Read_p 10 (by omega) (by omega) p[j] (by omega) mostB (by decide)
                rw [restN_at j1] at hW
                refine ⟨j, _, rfl, strL_at j1, ?_⟩
                refine .p rfl hdec ?_
                cases hnm : num1 p[j] with
                | none =>
                  have h2 := num1_none hnm
                  rw [hnm] at hW
                  refine cnd_split (fun h3 => ?_) (fun h3 => ?_)
                  · refine ⟨_, rfl, ?_⟩
                    refine ⟨_, rfl, ?_⟩
                    exact (by rw [hE, hW]; rfl)
                  · exact absurd (show (readG 10 p[j] mostB).2 = 0 by simpa using h3) h2
                | some n =>
                  obtain ⟨e0, e1, e2⟩ := num1_some hnm
                  rw [hnm] at hW
                  rw [e0, e1]
                  have hW' : numsW cl = (restN (p.drop (j + 1)) (numsW (cl.drop (k + 1)))).map ((q ++ [n]) ++ ·) := by
                    rw [hW]
                    cases restN (p.drop (j + 1)) (numsW (cl.drop (k + 1))) <;> simp
                  refine Acc.app (n := 0) (i := ti3) (es := es2) (.own _ _ _ v0 v1) (Nat.zero_le _) (List.cons_ne_nil _ _) ?_ ?_ (fun t9 e9 tk9 z0 z1 z2 z3 => ?_)
                  · show ((es2 : List (List AV)).length + 1) * 8 ≤ _; omega
                  · show (es2 : List (List AV)).length + 1 ≤ _; omega
                  intro c hc
                  rw [IntWalk.i64_in _ (by omega)] at hc
                  obtain rfl : c = ((j + 1 : Nat) : Int) := by omega
                  exact ⟨g2 - 1, by omega, j + 1, _, q ++ [n], _, by omega, rfl, rfl, by rw [← intL_app, heq]; exact .own _ _ _ z0 z1, by rw [List.length_append, List.length_singleton]; omega, hW'⟩
              · have hd2 := of_decide_eq_false hd2
                have : p.drop j = [] := List.drop_of_length_le (by omega)
                rw [this] at hW
                intro c hc
                rw [IntWalk.i64_in _ (by omega)] at hc
                obtain rfl : c = ((k + 1 : Nat) : Int) := by omega
                exact ⟨g - 1, by omega, k + 1, _, q, _, by omega, rfl, rfl, by rw [heq]; exact (.own _ _ _ v0 v1), by rw [Nat.add_mul]; omega, hW⟩
        · have hd := of_decide_eq_false hd
          have : cl.drop k = [] := List.drop_of_length_le (by omega)
          rw [this] at hW
          simp only [numsW, Option.map_some, List.append_nil] at hW
          rw [hW] at hE
          have ell := intL_len o
          have iat : ∀ {i : Nat} (hi : i < o.length), (es : List (List AV))[i]? = some [.i (o[i] : Nat)] := fun {i} hi => by rw [← hes]; exact intL_at hi
          refine vc_loop [17] (fun g vals st' => ∃ (i : Nat), i + g = o.length ∧ vals = [.i i] ∧ st' = ⟨[hdC k0 c mi m t r (.sl .no 2 (fldL l)), [.i 0, .i 0]], tk'⟩ ∧ ∀ j (hj : j < o.length) (h0 : 0 < o.length), j < i → o[j] = o[0]) o.length rfl ⟨0, by omega, rfl, rfl, fun j _ _ h => absurd h (by omega)⟩ ?_
          rintro g vals st' ⟨i, hi, rfl, rfl, hall⟩
          refine cnd_split (fun hd2 => ?_) (fun hd2 => ?_)
          · have hd2 := of_decide_eq_true hd2
            have i1 : i < o.length := by omega
            refine .e (by kernel_rfl) ?_
            refine ⟨i, _, rfl, iat i1, ?_⟩
            refine ⟨0, _, rfl, iat (by omega), ?_⟩
            refine cnd_split (fun h3 => ?_) (fun h3 => ?_)
            · have h3 : ¬ (o[i] : Int) = o[0] := by simpa using h3
              refine ⟨_, rfl, ?_⟩
              refine ⟨_, rfl, ?_⟩
              have : lenOf (some o) = errF 28 := by
                have := lenOf_bad' (q := []) (o := some []) (pre := o) (fun hc => h3 (by rw [hc o[i] (List.getElem_mem _) o[0] (List.getElem_mem _)]))
                simpa using this
              exact (by rw [hE, this]; rfl)
            · have h3 : (o[i] : Int) = o[0] := by simpa using h3
              intro c hc
              rw [IntWalk.i64_in _ (by omega)] at hc
              obtain rfl : c = ((i + 1 : Nat) : Int) := by omega
              refine ⟨g - 1, by omega, i + 1, by omega, rfl, rfl, fun j hj h0 hji => ?_⟩
              by_cases e : j = i
              · subst e; omega
              · exact hall j hj h0 (by omega)
          · have hd2 := of_decide_eq_false hd2
            refine cnd_split (fun h3 => ?_) (fun h3 => ?_)
            · have h3 : ((es : List (List AV)).length : Int) = 0 := by simpa using h3
              have : o = [] := List.eq_nil_of_length_eq_zero (by omega)
              subst this
              refine ⟨_, rfl, ?_⟩
              refine ⟨_, rfl, ?_⟩
              exact (by rw [hE]; rfl)
            · have h3 : ¬ ((es : List (List AV)).length : Int) = 0 := by simpa using h3
              have h0 : 0 < o.length := by omega
              refine ⟨0, _, rfl, iat h0, ?_⟩
              refine ⟨_, rfl, ?_⟩
              refine ⟨_, rfl, ?_⟩
              have : lenOf (some o) = ((2, (o[0] : Int), 0) : Fr3) := by
                cases o with
                | nil => simp at h0
                | cons n r =>
                  show (if _ then _ else _) = _
                  rw [if_pos]
                  · rfl
                  · intro x hx
                    obtain ⟨j, hj, rfl⟩ := List.getElem_of_mem hx
                    simp only [List.length_cons] at hall hd2 hi el1
                    have := hall (j + 1) (by omega) (by omega) (by omega)
                    simpa using this
              exact (by rw [hE, this]; rfl)
end
end Go.Proofs.YtopmflkeohicjaaDoor
