/- How bodies end: the program. No statement of its own. -/
import Derived.Test.YtopmflkeohicjaaDoorLn1
set_option maxRecDepth 100000
namespace Go.Proofs.YtopmflkeohicjaaDoor
open Go.RowKit
theorem Gr.two (st : St) (x y z : List AV) : Gr st ⟨((st.heap ++ [x]) ++ [y]).set (st.heap ++ [x]).length z, st.tk⟩ := ⟨⟨[x, z], by rw [last_set]; simp⟩, Nat.le_refl _, fun _ _ => rfl⟩
theorem at_fst (h : List (List AV)) (x y : List AV) : ((h ++ [x]) ++ [y])[h.length]? = some x := by simp
theorem chk_fold : foldB ⟨#[99, 104, 117, 110, 107, 101, 100]⟩ = foldB chkS := rfl
theorem tokW_size {m : Nat} : ∀ (l o : List ByteArray), (∀ x ∈ l, x.size ≤ m) → tokW l = some o → ∀ y ∈ o, y.size ≤ m
  | [], o, _, h => by cases h; simp
  | x :: r, o, hl, h => by
    unfold tokW at h
    cases hs : splitW x with
    | none => rw [hs] at h; cases h
    | some p =>
      rw [hs] at h
      simp only at h
      split at h
      · cases hr : tokW r with
        | none => rw [hr] at h; cases h
        | some q =>
          rw [hr] at h
          cases h
          intro y hy
          rcases List.mem_append.1 hy with hy | hy
          · rcases (splW_bound _ 0 [] p rfl (Nat.zero_le _) hs).2 y hy with h1 | h1
            · simp at h1
            · exact Nat.le_trans h1 (hl x (.head _))
          · exact tokW_size r q (fun z hz => hl z (.tail _ hz)) hr y hy
      · cases h
set_option maxHeartbeats 1000000 in
theorem coding_a {st : St} {R : AV → St → Prop} {b : Nat} {mi : Int} (t e : Nat) (l : List ByteArray) (hb : b < st.heap.length) (hn : l.length ≤ 1000) (hl : ∀ x ∈ l, x.size ≤ 4000) (h : ∀ st', Gr st st' → R (frA (codW l mi)) st') :
    ACalls Tryd.prog 134 [.agg [.ptr b 0, .i mi], .sl (.own t e) 1 (strL l)] st R := by
  have hmx : maxLen = 9223372036854775807 := rfl
  have ht := tokens_p l hn hl
  unfold tokR at ht
  refine ACalls.of_vc T_ok mixed Tryd.func134 rfl Tryd.call134 ?_
  refine ⟨hb, ?_⟩
  cases hw : tokW l with
  | none =>
    rw [hw] at ht
    have hc : codW l mi = errF 30 := by unfold codW; rw [hw]
    rw [hc] at h
    refine .p rfl ht ?_
    refine ⟨_, last_at _ _, ?_⟩
    refine ⟨_, last_upd _ _ _, ?_⟩
    exact h _ (.two _ _ _ _)
  | some o =>
    rw [hw] at ht
    have el := strL_len o
    have hc : codW l mi = if mi ≠ 0 ∧ o.length = 1 ∧ (∀ x ∈ o, foldB x = foldB chkS) then (3, 0, 0) else errF 30 := by
      unfold codW
      rw [hw]
      match o with
      | [] => simp
      | [x] => simp
      | x :: y :: r => simp
    rw [hc] at h
    have bad : ¬ (mi ≠ 0 ∧ o.length = 1 ∧ ∀ x ∈ o, foldB x = foldB chkS) → ∀ st', Gr st st' → R (frA (errF 30)) st' := fun hn => by rw [if_neg hn] at h; exact h
    refine .p rfl ht ?_
    refine ⟨_, at_fst _ _ _, ?_⟩
    refine cnd_split (fun h1 => ?_) (fun h1 => ?_)
    · have h1 : mi = 0 := beq_iff_eq.1 h1
      refine ⟨_, last_at _ _, ?_⟩
      refine ⟨_, last_upd _ _ _, ?_⟩
      exact bad (fun hc => hc.1 h1) _ (.two _ _ _ _)
    · have h1 : ¬ mi = 0 := beq_eq_false_iff_ne.1 h1
      refine cnd_split (fun h2 => ?_) (fun h2 => ?_)
      · have h2 : ¬ ((strL o).length : Int) = 1 := by simpa using h2
        refine ⟨_, last_at _ _, ?_⟩
        refine ⟨_, last_upd _ _ _, ?_⟩
        exact bad (fun hc => h2 (by omega)) _ (.two _ _ _ _)
      · have h2 : ((strL o).length : Int) = 1 := by simpa using h2
        have ol : o.length = 1 := by omega
        obtain ⟨x, rfl⟩ := List.length_eq_one_iff.1 ol
        have hx : x.size ≤ maxLen := by
          have := tokW_size l [x] hl hw x (.head _)
          omega
        refine ⟨0, _, rfl, strL_at (l := [x]) (j := 0) Nat.zero_lt_one, ?_⟩
        refine .p rfl (sameO_p x _ hx (by decide)) ?_
        rw [chk_fold]
        refine cnd_split (fun h3 => ?_) (fun h3 => ?_)
        · rw [Bool.not_eq_true'] at h3
          have h3 := of_decide_eq_false h3
          refine ⟨_, last_at _ _, ?_⟩
          refine ⟨_, last_upd _ _ _, ?_⟩
          exact bad (fun hc => h3 (hc.2.2 x (.head _))) _ (.two _ _ _ _)
        · rw [Bool.not_eq_false'] at h3
          have h3 := of_decide_eq_true h3
          rw [if_pos ⟨h1, rfl, fun y hy => by rw [List.mem_singleton.1 hy]; exact h3⟩] at h
          refine ⟨_, last_at _ _, ?_⟩
          refine ⟨_, last_upd _ _ _, ?_⟩
          exact h _ (.two _ _ _ _)
/-- the number so far -/
def Got (o : List Nat) (got : Int) : Prop := (o = [] ∧ got = -1) ∨ ∃ n r, o = n :: r ∧ got = (n : Int) ∧ n ≤ mostB ∧ ∀ x ∈ r, x = n
set_option maxHeartbeats 2000000 in
theorem lengths_a {st : St} {R : AV → St → Prop} {b : Nat} {mi : Int} (t e : Nat) (l : List ByteArray) (hb : b < st.heap.length) (hn : l.length ≤ 1000) (hl : ∀ x ∈ l, x.size ≤ 4000) (h : ∀ st', Gr st st' → R (frA (lenOf (numsW l))) st') :
    ACalls Tryd.prog 135 [.agg [.ptr b 0, .i mi], .sl (.own t e) 1 (strL l)] st R := by
  have hmx : maxLen = 9223372036854775807 := rfl
  have hmb : (mostB : Int) = 1099511627776 := rfl
  have ell := strL_len l
  have bad : ∀ (o : Option (List Nat)) (pre : List Nat), numsW l = o.map (pre ++ ·) → lenOf (o.map (pre ++ ·)) = errF 28 → ∀ st', Gr st st' → R (frA (errF 28)) st' := fun o pre h1 h2 => by rw [h1, h2] at h; exact h
  refine ACalls.of_vc T_ok mixed Tryd.func135 rfl Tryd.call135 ?_
  refine ⟨hb, ?_⟩
  refine vc_loop [6, 17] (fun g vals st' => ∃ (k : Nat) (got : Int) (o : List Nat), k + g = l.length ∧ vals = [.i got, .i k] ∧ st' = ⟨(st.heap ++ [[.ptr b 0, .i mi]]) ++ [[.i 0, .i 0]], st.tk⟩ ∧ Got o got ∧ numsW l = (numsW (l.drop k)).map (o ++ ·)) l.length rfl ⟨0, -1, [], by omega, rfl, rfl, .inl ⟨rfl, rfl⟩, by simp⟩ ?_
  rintro g vals st' ⟨k, got, o, hk, rfl, rfl, hG, hW⟩
  refine cnd_split (fun hd => ?_) (fun hd => ?_)
  · have hd := of_decide_eq_true hd
    have k1 : k < l.length := by omega
    have sz := hl l[k] (List.getElem_mem k1)
    have ps := split_p l[k] (by omega)
    unfold splR at ps
    rw [numsW_at k1] at hW
    refine ⟨k, _, rfl, strL_at k1, ?_⟩
    cases hsp : splitW l[k] with
    | none =>
      rw [hsp] at ps hW
      refine .p rfl ps ?_
      refine ⟨_, last_at _ _, ?_⟩
      refine ⟨_, last_upd _ _ _, ?_⟩
      exact bad none o hW rfl _ (.two _ _ _ _)
    | some p =>
      rw [hsp] at ps hW
      have elp := strL_len p
      have pb := splW_bound _ 0 [] p rfl (Nat.zero_le _) hsp
      have pn : p.length ≤ 4001 := by have := pb.1; simp at this; omega
      refine .p rfl ps ?_
      refine vc_loop [6, 31] (fun g2 vals st2 => ∃ (j : Nat) (got : Int) (q : List Nat), j + g2 = p.length ∧ vals = [.i got, .i j] ∧ st2 = ⟨(st.heap ++ [[.ptr b 0, .i mi]]) ++ [[.i 0, .i 0]], st.tk⟩ ∧ Got q got ∧ numsW l = (restN (p.drop j) (numsW (l.drop (k + 1)))).map (q ++ ·)) p.length rfl ⟨0, got, o, by omega, rfl, rfl, hG, hW⟩ ?_
      rintro g2 vals st2 ⟨j, got, q, hj, rfl, rfl, hG, hW⟩
      refine cnd_split (fun hd2 => ?_) (fun hd2 => ?_)
      · have hd2 := of_decide_eq_true hd2
        have j1 : j < p.length := by omega
        have szj : p[j].size ≤ 4000 := by
          rcases pb.2 p[j] (List.getElem_mem j1) with h | h
          · simp at h
          · omega
        have hdec := decimal_p p[j] (by omega)
        rw [restN_at j1] at hW
        refine ⟨j, _, rfl, strL_at j1, ?_⟩
        refine .p rfl hdec ?_
        cases hnm : num1 p[j] with
        | none =>
          have h2 := num1_none hnm
          rw [hnm] at hW
          refine cnd_split (fun h3 => ?_) (fun h3 => ?_)
          · refine ⟨_, last_at _ _, ?_⟩
            refine ⟨_, last_upd _ _ _, ?_⟩
            exact bad none q hW rfl _ (.two _ _ _ _)
          · exact absurd (show (readG 10 p[j] mostB).2 = 0 by simpa using h3) h2
        | some n =>
          obtain ⟨e0, e1, e2⟩ := num1_some hnm
          rw [hnm] at hW
          rw [e0, e1]
          have hW' : numsW l = (restN (p.drop (j + 1)) (numsW (l.drop (k + 1)))).map ((q ++ [n]) ++ ·) := by
            rw [hW]
            cases restN (p.drop (j + 1)) (numsW (l.drop (k + 1))) <;> simp
          have next : Got (q ++ [n]) n → ∃ g', g' < g2 ∧ ∃ (j' : Nat) (got : Int) (q : List Nat), j' + g' = p.length ∧ [AV.i n, AV.i (j + 1 : Nat)] = [.i got, .i j'] ∧ (⟨(st.heap ++ [[.ptr b 0, .i mi]]) ++ [[.i 0, .i 0]], st.tk⟩ : St) = ⟨(st.heap ++ [[.ptr b 0, .i mi]]) ++ [[.i 0, .i 0]], st.tk⟩ ∧ Got q got ∧ numsW l = (restN (p.drop j') (numsW (l.drop (k + 1)))).map (q ++ ·) :=
            fun hg => ⟨g2 - 1, by omega, j + 1, n, q ++ [n], by omega, rfl, rfl, hg, hW'⟩
          refine cnd_split (fun h4 => ?_) (fun h4 => ?_)
          · have h4 := of_decide_eq_true h4
            rcases hG with ⟨_, hg⟩ | ⟨n0, r, rfl, hg, hle, hr⟩
            · omega
            · refine cnd_split (fun h5 => ?_) (fun h5 => ?_)
              · have h5 : ¬ (n : Int) = got := by simpa using h5
                refine ⟨_, last_at _ _, ?_⟩
                refine ⟨_, last_upd _ _ _, ?_⟩
                exact bad _ _ hW' (lenOf_bad _ (fun e => h5 (by rw [hg, e]))) _ (.two _ _ _ _)
              · have h5 : (n : Int) = got := by simpa using h5
                intro c hc
                rw [IntWalk.i64_in _ (by omega)] at hc
                obtain rfl : c = ((j + 1 : Nat) : Int) := by omega
                refine next (.inr ⟨n0, r ++ [n], rfl, by omega, hle, fun x hx => ?_⟩)
                rcases List.mem_append.1 hx with hx | hx
                · exact hr x hx
                · rw [List.mem_singleton.1 hx]; omega
          · have h4 := of_decide_eq_false h4
            rcases hG with ⟨rfl, hg⟩ | ⟨n0, r, rfl, hg, hle, hr⟩
            · intro c hc
              rw [IntWalk.i64_in _ (by omega)] at hc
              obtain rfl : c = ((j + 1 : Nat) : Int) := by omega
              exact next (.inr ⟨n, [], rfl, rfl, e2, fun x hx => by simp at hx⟩)
            · omega
      · have hd2 := of_decide_eq_false hd2
        have : p.drop j = [] := List.drop_of_length_le (by omega)
        rw [this] at hW
        intro c hc
        rw [IntWalk.i64_in _ (by omega)] at hc
        obtain rfl : c = ((k + 1 : Nat) : Int) := by omega
        exact ⟨g - 1, by omega, k + 1, got, q, by omega, rfl, rfl, hG, hW⟩
  · have hd := of_decide_eq_false hd
    have : l.drop k = [] := List.drop_of_length_le (by omega)
    rw [this] at hW
    simp only [numsW, Option.map_some, List.append_nil] at hW
    rw [hW] at h
    refine cnd_split (fun h3 => ?_) (fun h3 => ?_)
    · have h3 := of_decide_eq_true h3
      rcases hG with ⟨rfl, hg⟩ | ⟨n0, r, rfl, hg, hle, hr⟩
      · refine ⟨_, last_at _ _, ?_⟩
        refine ⟨_, last_upd _ _ _, ?_⟩
        exact h _ (.two _ _ _ _)
      · omega
    · have h3 := of_decide_eq_false h3
      rcases hG with ⟨rfl, hg⟩ | ⟨n0, r, rfl, hg, hle, hr⟩
      · omega
      · refine ⟨_, last_at _ _, ?_⟩
        refine ⟨_, last_upd _ _ _, ?_⟩
        have e : lenOf (some (n0 :: r)) = (2, got, 0) := by
          show (if _ then _ else _) = _
          rw [if_pos hr, hg]
        rw [e] at h
        exact h _ (.two _ _ _ _)
theorem Pre.len {a b : St} (h : Pre a b) : a.heap.length ≤ b.heap.length := by
  obtain ⟨l, h⟩ := h
  rw [h, List.length_append]; omega
theorem TE_fold : foldB ⟨#[84, 114, 97, 110, 115, 102, 101, 114, 45, 69, 110, 99, 111, 100, 105, 110, 103]⟩ = foldB teS := rfl
theorem CL_fold : foldB ⟨#[67, 111, 110, 116, 101, 110, 116, 45, 76, 101, 110, 103, 116, 104]⟩ = foldB clS := rfl
set_option maxHeartbeats 2000000 in
theorem of_p (k c mi none : Int) (m t r : ByteArray) (l : List Fld) (hl : FldOk l) : APure Tryd.prog 85 [hdA k c mi m t r (.sl .no 2 (fldL l)), .i none] (frA (ofW l mi none)) [] := by
  have hll := hl.len
  have sT := valsW_congr TE_fold l
  have sC := valsW_congr CL_fold l
  refine APure.of rfl (ACalls.of_vc T_ok mixed Tryd.func85 rfl Tryd.call85 ?_)
  refine vc_cut [6] (fun vals st' => ∃ q b tk, vals = [.ptr q 0] ∧ st'.heap[q]? = some [.ptr b 0, .i mi] ∧ st'.heap[b]? = some [.sl .no 2 (fldL l)] ∧ st'.heap[1]? = some [.i 0, .i 0] ∧ st'.tk = tk)
    (.one 0 (.one 1 (.one 3 (.one 4 (.two 2 6 (.one 5 (.one 6 (.one 7 .done))) (.one 2 (.one 5 (.one 7 .done)))))))) (by kernel_rfl) (by kernel_rfl) ?_ ?_
  · refine ⟨_, rfl, ?_⟩
    refine ⟨_, rfl, ?_⟩
    refine ⟨?_, ?_⟩
    · refine .s (newB_a l (by omega) ⟨⟨_, rfl⟩, ?_⟩)
      refine ⟨_, rfl, ?_⟩
      exact ⟨3, 2, _, rfl, rfl, rfl, rfl, rfl⟩
    · refine .s (newB_a l (by omega) ⟨⟨_, rfl⟩, ?_⟩)
      refine ⟨_, rfl, ?_⟩
      exact ⟨2, 3, _, rfl, rfl, rfl, rfl, rfl⟩
  rintro vals st1 ⟨q, b, tk, rfl, hq, hb, h1, rfl⟩
  refine .n (.one 0 (.one 1 (.one 3 (.one 4 (.one 2 (.one 5 (.one 6 (.one 7 .done)))))))) (by kernel_rfl) ?_
  refine ⟨_, hq, ?_⟩
  refine ⟨_, hq, ?_⟩
  refine .s (values_a l _ (by omega) hl.big (by decide) hb fun a st2 g2 a2 => ⟨g2.pre, ?_⟩)
  have hb2 := g2.pre.at' hb
  have hq2 := g2.pre.at' hq
  have h12 := g2.pre.at' h1
  rw [sT] at a2
  have vt := hl.vlen teS
  have vts := hl.vsize teS
  generalize hT : valsW teS l = te at a2 vt vts
  have hE : ofW l mi none = if te = [] then (if valsW clS l = [] then (none, 0, 0) else lenOf (numsW (valsW clS l))) else if valsW clS l = [] then codW te mi else errF 29 := by unfold ofW; rw [hT]
  have vc := hl.vlen clS
  have vcs := hl.vsize clS
  have set1 : ∀ {h : List (List AV)} {z : List AV} (cs : List AV), h[1]? = some z → (h.set 1 cs)[1]? = some cs := fun cs h => List.getElem?_set_self (List.getElem?_eq_some_iff.1 h).1
  generalize hes : strL te = es at a2
  have elt := strL_len te
  have te0 := nil_len te
  cases a2 with
  | nil =>
    have te0 : te = [] := te0.1 hes
    rw [if_pos te0] at hE
    refine .s (values_a l _ (by omega) hl.big (by decide) hb2 fun a' st3 g3 a3 => ⟨g3.pre, ?_⟩)
    have hb3 := g3.pre.at' hb2
    have hq3 := g3.pre.at' hq2
    have h13 := g3.pre.at' h12
    rw [sC] at a3
    generalize valsW clS l = cl at a3 vc vcs hE
    generalize hec : strL cl = ec at a3
    have elc := strL_len cl
    have cl0 := nil_len cl
    cases a3 with
    | nil =>
      rw [if_pos (cl0.1 hec)] at hE
      refine ⟨_, h13, ?_⟩
      refine ⟨_, set1 _ h13, ?_⟩
      exact (by rw [hE]; rfl)
    | own t1 e1 ec w0 w1 =>
      subst hec
      refine cnd_split (fun hd => ?_) (fun hd => ?_)
      · have hd := of_decide_eq_true hd
        rw [if_neg (fun e => by rw [e] at hd; exact absurd hd (by decide))] at hE
        refine ⟨_, hq3, ?_⟩
        refine .s (lengths_a _ _ cl (List.getElem?_eq_some_iff.1 hb3).1 vc vcs fun st4 g4 => ?_)
        have h14 := g4.pre.at' h13
        refine ⟨_, h14, ?_⟩
        refine ⟨_, set1 _ h14, ?_⟩
        exact (by rw [hE]; rfl)
      · have hd := of_decide_eq_false hd
        rw [if_pos (List.eq_nil_of_length_eq_zero (by omega))] at hE
        refine ⟨_, h13, ?_⟩
        refine ⟨_, set1 _ h13, ?_⟩
        exact (by rw [hE]; rfl)
  | own t0 e0 es q0 q1 =>
    subst hes
    refine .s (values_a l _ (by omega) hl.big (by decide) hb2 fun a' st3 g3 a3 => ⟨g3.pre, ?_⟩)
    have hb3 := g3.pre.at' hb2
    have hq3 := g3.pre.at' hq2
    have h13 := g3.pre.at' h12
    rw [sC] at a3
    generalize valsW clS l = cl at a3 vc vcs hE
    generalize hec : strL cl = ec at a3
    have elc := strL_len cl
    have cl0 := nil_len cl
    cases a3 with
    | nil =>
      have cl0 := cl0.1 hec
      rw [if_pos cl0, if_pos cl0] at hE
      refine cnd_split (fun hd => ?_) (fun hd => ?_)
      · refine cnd_split (fun hd => ?_) (fun hd' => ?_)
        · have hd := of_decide_eq_true hd
          rw [if_neg (fun e => by rw [e] at hd; exact absurd hd (by decide))] at hE
          refine ⟨_, hq3, ?_⟩
          refine .s (coding_a _ _ te (List.getElem?_eq_some_iff.1 hb3).1 vt vts fun st4 g4 => ?_)
          have h14 := g4.pre.at' h13
          refine ⟨_, h14, ?_⟩
          refine ⟨_, set1 _ h14, ?_⟩
          exact (by rw [hE]; rfl)
        · rw [hd] at hd'; cases hd'
      · refine cnd_split (fun hd' => ?_) (fun hd => ?_)
        · rw [hd] at hd'; cases hd'
        · have hd := of_decide_eq_false hd
          rw [if_pos (List.eq_nil_of_length_eq_zero (by omega))] at hE
          refine ⟨_, h13, ?_⟩
          refine ⟨_, set1 _ h13, ?_⟩
          exact (by rw [hE]; rfl)
    | own t1 e1 ec w0 w1 =>
      subst hec
      refine cnd_split (fun hd => ?_) (fun hd => ?_)
      · have hdt := of_decide_eq_true hd
        rw [if_neg (fun e => by rw [e] at hdt; exact absurd hdt (by decide))] at hE
        refine cnd_split (fun hd2 => ?_) (fun hd2 => ?_)
        · have hdc := of_decide_eq_true hd2
          rw [if_neg (fun e => by rw [e] at hdc; exact absurd hdc (by decide))] at hE
          refine ⟨_, h13, ?_⟩
          refine ⟨_, set1 _ h13, ?_⟩
          exact (by rw [hE]; rfl)
        · have hdc := of_decide_eq_false hd2
          rw [if_pos (List.eq_nil_of_length_eq_zero (by omega))] at hE
          refine cnd_split (fun hd => ?_) (fun hd' => ?_)
          · skip
            refine ⟨_, hq3, ?_⟩
            refine .s (coding_a _ _ te (List.getElem?_eq_some_iff.1 hb3).1 vt vts fun st4 g4 => ?_)
            have h14 := g4.pre.at' h13
            refine ⟨_, h14, ?_⟩
            refine ⟨_, set1 _ h14, ?_⟩
            exact (by rw [hE]; rfl)
          · rw [hd] at hd'; cases hd'
      · have hdt := of_decide_eq_false hd
        rw [if_pos (List.eq_nil_of_length_eq_zero (by omega))] at hE
        refine cnd_split (fun hd' => ?_) (fun hd => ?_)
        · rw [hd] at hd'; cases hd'
        · refine cnd_split (fun hd => ?_) (fun hd => ?_)
          · have hd := of_decide_eq_true hd
            rw [if_neg (fun e => by rw [e] at hd; exact absurd hd (by decide))] at hE
            refine ⟨_, hq3, ?_⟩
            refine .s (lengths_a _ _ cl (List.getElem?_eq_some_iff.1 hb3).1 vc vcs fun st4 g4 => ?_)
            have h14 := g4.pre.at' h13
            refine ⟨_, h14, ?_⟩
            refine ⟨_, set1 _ h14, ?_⟩
            exact (by rw [hE]; rfl)
          · have hd := of_decide_eq_false hd
            rw [if_pos (List.eq_nil_of_length_eq_zero (by omega))] at hE
            refine ⟨_, h13, ?_⟩
            refine ⟨_, set1 _ h13, ?_⟩
            exact (by rw [hE]; rfl)
end Go.Proofs.YtopmflkeohicjaaDoor
