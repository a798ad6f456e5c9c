/- A function whose last part only reads what its first part has made: what was made is then data. No statement of its own. -/
import Derived.Test.YtookaenbpfpegaaGreatDoorVg
import Derived.Test.YtookaenbpfpegaaGreatDoorMm
set_option linter.unusedSimpArgs false
set_option linter.unusedVariables false
set_option maxRecDepth 100000
namespace Go.Proofs.YtookaenbpfpegaaGreatDoor
open Go.RowKit
section
variable {P : Program} {T : Tab}
def frz (st : St) (a b : AV) : Prop :=
  b = .top ∨ (b = a.strip ∧ b.dat = true) ∨ (∃ p off cs, a = .ptr p off ∧ st.heap[p]? = some cs ∧ b = .elt (cs.drop off) ∧ (cs.drop off).all AV.flat = true) ∨
    ∃ p lo n cap sz cs es, a = .hs p lo n cap sz ∧ st.heap[p]? = some cs ∧ Seen cs lo n sz es ∧ b = .sl .no sz es
def frzL (st : St) (fr : Fr) : List Nat → List AV → Prop
  | [], [] => True
  | i :: is, b :: bs => frz st (fr.getD i .un) b ∧ frzL st fr is bs
  | _, _ => False
theorem frzL.get {st : St} {fr : Fr} : ∀ {is : List Nat} {bs : List AV}, frzL st fr is bs → ∀ (k i : Nat) b, is[k]? = some i → bs[k]? = some b → frz st (fr.getD i .un) b
  | [], [], _, k, i, b, h, _ => by simp at h
  | i0 :: is, b0 :: bs, h, k, i, b, h1, h2 => by
    cases k with
    | zero => simp at h1 h2; subst h1; subst h2; exact h.1
    | succ k => exact frzL.get h.2 k i b (by simpa using h1) (by simpa using h2)
  | [], _ :: _, h, _, _, _, _, _ => h.elim
  | _ :: _, [], h, _, _, _, _, _ => h.elim
/-- code behind n pieces, run on what was made as data -/
inductive FrzK (P : Program) (T : Tab) (Q : Exit → Fr → St → Prop) (c : Code) (fr : Fr) (st : St) : Prop
  | mk (live : List Nat) (vals : List AV) (h : frzL st fr live vals) (hv : listK (sets live vals (List.replicate fr.length .top)) fun fr2 => vc P T c Q fr2 ⟨[], []⟩)
def vcAt (P : Program) (T : Tab) (Q : Exit → Fr → St → Prop) : Nat → Code → Fr → St → Prop
  | 0, c, fr, st => FrzK P T Q c fr st
  | n + 1, .seq a b, fr, st => vc P T a (seqQ (fun fr' st' => vcAt P T Q n b fr' st') Q) fr st
  | _ + 1, _, _, _ => False
variable {base : Nat} {J : Nat → Nat → Prop} {w0 : World} {st : St} {μ : Nat → Nat} {σ : Nat → Tkt} {w w' : World}
theorem frz.at (hok : Ok base J w0 st μ σ w) {a b : AV} {v : Value} (h : At base J st μ σ w a v) (hf : frz st a b) : At w.heap.size (fun _ _ => True) ⟨[], []⟩ (fun _ => 0) (fun _ => ⟨0, 0, 0⟩) w b v := by
  have im : ∀ g x, Im w.heap.size (fun _ _ => True) ⟨[], []⟩ (fun _ => 0) (fun _ => ⟨0, 0, 0⟩) g x := fun g x => ⟨fun _ => trivial, fun p hp => by simp at hp, fun t e ht => by simp at ht⟩
  rcases hf with rfl | ⟨rfl, hd⟩ | ⟨p, off, cs, rfl, hcs, rfl, hfl⟩ | ⟨p, lo, n, cap, sz, cs, es, rfl, hcs, hseen, rfl⟩
  · exact .top v
  · exact h.strip.dat (fun g x _ _ => im g x) hd
  · cases h with
    | ptr _ _ hp =>
      obtain ⟨_, us, TT, hb, hlen, hr⟩ := hok.hp p cs hcs
      refine .elt _ (μ p) off (fun j => us.getD (off + j) undef) hfl (fun j a ha => ⟨im _ _, ?_⟩) (fun j a ha => ?_)
      · rw [List.getElem?_drop] at ha
        have hj := (List.getElem?_eq_some_iff.1 ha).1
        have hu : us[off + j]? = some us[off + j] := Array.getElem?_eq_getElem (by omega)
        rw [cell_block hb, hu]
        simp [Array.getD_eq_getD_getElem?, hu]
      · have ha' := ha
        rw [List.getElem?_drop] at ha
        have hj := (List.getElem?_eq_some_iff.1 ha).1
        have hu : us[off + j]? = some us[off + j] := Array.getElem?_eq_getElem (by omega)
        have := (hr (off + j) a _ ha hu).2.2
        have hg : us.getD (off + j) undef = us[off + j] := by simp [Array.getD_eq_getD_getElem?, hu]
        show Rp w _ _ _ _ _ a (us.getD (off + j) undef)
        rw [hg]
        exact this.data (fun g x _ _ => im g x) (List.all_eq_true.1 hfl a (List.mem_of_getElem? ha'))
  · cases h with
    | hs _ _ _ _ _ hp hnc hm =>
      obtain rfl := hseen.len
      obtain ⟨us, hrow, hcell⟩ := hseen.row hok hcs
      have hrow' : Row w.heap.size (fun _ _ => True) ⟨[], []⟩ (fun _ => 0) (fun _ => ⟨0, 0, 0⟩) w sz es us := ⟨hrow.len, hrow.el, fun k e j a he ha => by
        obtain ⟨u, h1, h2⟩ := hrow.at' k e j a he ha
        exact ⟨u, h1, h2.dat (fun g x _ _ => im g x) (AV.dat_of_flat (List.all_eq_true.1 (hrow.el k e he).2 a (List.mem_of_getElem? ha)))⟩⟩
      exact hrow'.sl .no (μ p) lo cap hnc hm (fun j u hu => ⟨im _ _, hcell j u hu⟩) (fun h => by cases h) (fun i e h => by cases h)
theorem sets_len' : ∀ (is : List Nat) (vs : List AV) (fr : Fr), (sets is vs fr).length = fr.length := sets_len
/-- what stands behind it all -/
def ZFin (P : Program) (fn : Func) (base : Nat) (w0 : World) (r : Value) (e : Exit) (a : Act) (w : World) : Prop :=
  (e = .normal ∨ e = .ret) ∧ a.defers = [] ∧ (results fn a.tmps).run P w = .ok r w ∧ Below base w0 w
theorem rel_fin (hT : T.Ok P) {fn : Func} {r : Value} {b2 : Nat} {J2 : Nat → Nat → Prop} {w2 : World} {st2 : St} {μ2 : Nat → Nat} {σ2 : Nat → Tkt} {w3 : World} (hbl : ∀ w'', Below b2 w2 w'' → Below base w0 w'') {e : Exit} {a' : Act} {w'' : World}
    (hr : Rel b2 J2 w2 st2 μ2 σ2 w3 (retQ T fn (fun r' _ => r' = .lit r) e) a' w'') : ZFin P fn base w0 r e a' w'' := by
  obtain ⟨fr', st', μ', σ', q1, q2, q3, q4, q5⟩ := hr
  have main : (e = .normal ∨ e = .ret) → ZFin P fn base w0 r e a' w'' := fun he => by
    have q1' : resAll T fn.results.toList fr' st' fun vs => match vs with | [v] => (fun (r' : AV) (_ : St) => r' = .lit r) v st' | vs => (fun (r' : AV) (_ : St) => r' = .lit r) (.tup vs) st' := by
      rcases he with rfl | rfl <;> exact q1
    obtain ⟨v, a, h1, h2, h3⟩ := res_sound (fn := fn) (R := fun r' _ => r' = .lit r) hT q2 q4 q1'
    subst h2
    rw [h3.of_lit] at h1
    exact ⟨he, q5, h1, hbl _ q2.below⟩
  cases e with
  | normal => exact main (.inl rfl)
  | ret => exact main (.inr rfl)
  | _ => exact q1.elim
theorem z_sound (hT : T.Ok P) (hm : P.follows .mixedOrders = true) {fn : Func} {r : Value} : ∀ (n : Nat) (c : Code) (fr : Fr) (st : St) (μ : Nat → Nat) (σ : Nat → Tkt) (a : Act) (w : World),
    vcAt P T (retQ T fn (fun r' _ => r' = .lit r)) n c fr st → Ok base J w0 st μ σ w → FrAt base J st μ σ w fr a.tmps → a.defers = [] → c.wp P (ZFin P fn base w0 r) a w
  | 0, c, fr, st, μ, σ, a, w, hv, h, hf, hd => by
    obtain ⟨live, vals, hz, hv⟩ := hv
    have hv := listK_iff.1 hv
    refine wp_mono (vc_sound hT hm c _ _ ⟨[], []⟩ (fun _ => 0) (fun _ => ⟨0, 0, 0⟩) a w hv (Ok.none (fun _ _ => True) _ _ w h.laid') ⟨by rw [sets_len, List.length_replicate]; exact hf.1, fun i b v h1 h2 => ?_⟩ hd) fun e a' w' hr => rel_fin hT (fun w'' hb => h.below.trans (hb.mono h.base_le)) hr
    rcases sets_get _ _ _ _ _ h1 with ⟨k, k1, k2⟩ | k1
    · have hfz := hz.get k i b k1 k2
      have hi := (List.getElem?_eq_some_iff.1 h1).1
      rw [sets_len, List.length_replicate] at hi
      have hx : fr[i]? = some (fr.getD i .un) := by rw [List.getD_eq_getElem?_getD, List.getElem?_eq_getElem hi]; rfl
      exact hfz.at h (hf.2 i _ v hx h2)
    · rw [List.getElem?_replicate] at k1
      split at k1
      · cases k1; exact .top v
      · cases k1
  | n + 1, c, fr, st, μ, σ, a, w, hv, h, hf, hd => by
    cases c with
    | seq x y =>
      have hv : vc P T x (seqQ (fun fr' st' => vcAt P T (retQ T fn (fun r' _ => r' = .lit r)) n y fr' st') (retQ T fn (fun r' _ => r' = .lit r))) fr st := hv
      refine wp_seq (wp_mono (vc_sound hT hm x _ fr st μ σ a w hv h hf hd) fun e a' w' hr => ?_)
      cases e with
      | normal =>
        obtain ⟨fr', st', μ', σ', q1, q2, q3, q4, q5⟩ := hr
        exact z_sound hT hm n y fr' st' μ' σ' a' w' q1 q2 q4 q5
      | _ => exact rel_fin hT (fun w'' hb => hb) hr
    | _ => exact hv.elim
/-- a pure function's plain answer: its code behind n pieces only reads what was made -/
theorem APure.ofZ (hT : T.Ok P) (hm : P.follows .mixedOrders = true) (n : Nat) {f : FuncId} {fn : Func} {c : Code} (hf : P.funcs[f]? = some fn) (hb : fn.body = some c)
    (hcall : ∀ zs w, (callFunc f zs).run P w = .ok (.enter f zs) w) {args : List AV} {r : Value} (hd : (AV.lit r).res = true) (hv : frameK fn args fun fr => vcAt P T (retQ T fn (fun r' _ => r' = .lit r)) n c fr ⟨[], []⟩) : APure P f args (.lit r) [] := by
  have hv := frameK_iff.1 hv
  refine ⟨hd, hcall, fun J w vs hw hl ha => ?_⟩
  refine calls_of_wp hf hb (wp_mono (z_sound (base := w.heap.size) (J := J) (w0 := w) hT hm n c _ ⟨[], []⟩ (fun _ => 0) (fun _ => ⟨0, 0, 0⟩) { tmps := vs ++ Array.replicate (fn.ntmps - vs.size) undef, defers := [] } w hv (Ok.none J _ _ w hw) ?_ rfl) fun e a' w' hr => ?_)
  · refine ⟨by simp [frame, hl], fun i a v h1 h2 => ?_⟩
    simp only [frame, List.getElem?_append, hl] at h1
    rw [Array.getElem?_append] at h2
    by_cases hi : i < vs.size
    · rw [if_pos hi] at h1 h2
      exact ha i a v h1 h2
    · rw [if_neg hi] at h1 h2
      rw [List.getElem?_replicate] at h1
      rw [Array.getElem?_replicate] at h2
      split at h1
      · split at h2
        · cases h1; cases h2; exact .lit _
        · rename_i q1 q2; exact absurd q1 q2
      · cases h1
  · obtain ⟨he, hd, hres, hbel⟩ := hr
    have fin : a'.defers = [] ∧ ∃ v, (results fn a'.tmps).run P w' = .ok v w' ∧ ∃ v' σ', Ending.returned v = .returned v' ∧ Ok w.heap.size J w ⟨[], []⟩ (fun _ => 0) σ' w' ∧ At w.heap.size J ⟨[], []⟩ (fun _ => 0) σ' w' (.lit r) v' :=
      ⟨hd, r, hres, r, fun _ => ⟨0, 0, 0⟩, rfl, ⟨⟨Nat.le_refl _, hw⟩, hbel, fun p cs h => by simp at h, fun p q h => by simp at h, fun t e h => by simp at h⟩, .lit _⟩
    rcases he with rfl | rfl
    · exact fin
    · exact fin
end
section
variable {kn : List Fld}
/-- what a rule does, its guard aside -/
def actX (kn : List Fld) (r : Rl) (fs : List Fld) : List Fld :=
  if r.ac = 1 then putW r.nm (clnB (evT kn fs r.ps)) fs else if r.ac = 2 then fs ++ [(r.nm, clnB (evT kn fs r.ps))] else if r.ac = 3 then withoutW r.nm fs else renW r.nm r.un fs
theorem actR_yes {r : Rl} {fs : List Fld} (h : holdsG r.gk r.ga r.gb fs = true) : actR kn r fs = actX kn r fs := if_pos h
theorem actR_no {r : Rl} {fs : List Fld} (h : holdsG r.gk r.ga r.gb fs = false) : actR kn r fs = fs := if_neg (by rw [h]; decide)
theorem own_do {r : Rl} {fs : List Fld} (h : 1 ≤ r.ac ∧ r.ac ≤ 4) : doO kn (ownO r) fs = actX kn r fs := by
  obtain h | h | h | h : r.ac = 1 ∨ r.ac = 2 ∨ r.ac = 3 ∨ r.ac = 4 := by omega
  all_goals simp [ownO, doO, actX, h]
theorem own_k {r : Rl} (h : 1 ≤ r.ac ∧ r.ac ≤ 4) : 4 ≤ (ownO r).k ∧ (ownO r).k ≤ 7 := by
  obtain h | h | h | h : r.ac = 1 ∨ r.ac = 2 ∨ r.ac = 3 ∨ r.ac = 4 := by omega
  all_goals simp [ownO, h]
theorem run_own {r : Rl} {ops : List Opn} {fs : List Fld} {n : Nat} (h : 1 ≤ r.ac ∧ r.ac ≤ 4) : runO kn (ownO r :: ops) fs n = runO kn ops (actX kn r fs) (n + 1) := by
  have hk := own_k h
  rw [runO_cons, skips_no (by omega), if_neg (by decide), own_do h]
theorem run_guard {g : Int × ByteArray × ByteArray} {c : Nat} {ops : List Opn} {fs : List Fld} {n : Nat} (h : 1 ≤ g.1 ∧ g.1 ≤ 3) :
    runO kn (guardO g c :: ops) fs n = if holdsG g.1 g.2.1 g.2.2 fs = true then runO kn ops fs (n + 1) else runO kn (ops.drop c) fs (n + 1) := by
  have e1 : skipsO (guardO g c) fs = !holdsG g.1 g.2.1 g.2.2 fs := skips_holds (o := guardO g c) h
  have e2 : doO kn (guardO g c) fs = fs := doO_no (.inl (by show g.1 < 4; omega))
  have e3 : (guardO g c).n.toNat = c := rfl
  rw [runO_cons, e1, e2, e3]
  cases holdsG g.1 g.2.1 g.2.2 fs with
  | true => rfl
  | false => rfl
theorem runO_n : ∀ (m : Nat) (ops : List Opn) (fs : List Fld) (n k : Nat), ops.length ≤ m → (runO kn ops fs n).1 = (runO kn ops fs k).1
  | _, [], fs, n, k, _ => by rw [runO_nil, runO_nil]
  | 0, o :: r, fs, n, k, h => by simp at h
  | m + 1, o :: r, fs, n, k, h => by
    have hr : r.length ≤ m := by simp at h; omega
    rw [runO_cons, runO_cons]
    split
    · exact runO_n m _ fs (n + 1) (k + 1) (by rw [List.length_drop]; omega)
    · exact runO_n m r _ (n + 1) (k + 1) hr
theorem runO_0 (ops : List Opn) (fs : List Fld) (n : Nat) : (runO kn ops fs n).1 = (runO kn ops fs 0).1 := runO_n _ ops fs n 0 (Nat.le_refl _)
/-- other names' values stay -/
theorem vals_put {nm x v : ByteArray} (h : foldB nm ≠ foldB x) : ∀ l : List Fld, valsW x (putW nm v l) = valsW x l
  | [] => by
    unfold valsW
    rw [putW, List.filter_cons, decide_eq_false h]; rfl
  | f :: r => by
    have ih := vals_put (v := v) h r
    have hw : valsW x (withoutW nm r) = valsW x r := by
      unfold valsW withoutW
      rw [List.filter_filter]
      congr 1
      refine List.filter_congr fun g _ => ?_
      by_cases h1 : foldB g.1 = foldB x
      · have : ofB nm g = false := decide_eq_false (fun e => h (e.symm.trans h1))
        rw [this, Bool.not_false, Bool.and_true]
      · rw [decide_eq_false h1, Bool.false_and]
    rw [putW]
    split
    · rename_i hf
      have h2 : foldB f.1 = foldB nm := of_decide_eq_true hf
      have e1 : valsW x ((nm, v) :: withoutW nm r) = valsW x (withoutW nm r) := by
        unfold valsW; rw [List.filter_cons, decide_eq_false h]; rfl
      have e2 : valsW x (f :: r) = valsW x r := by
        unfold valsW; rw [List.filter_cons, decide_eq_false (fun e => h (h2.symm.trans e))]; rfl
      rw [e1, e2, hw]
    · unfold valsW at ih ⊢
      rw [List.filter_cons, List.filter_cons]
      split
      · rw [List.map_cons, List.map_cons, ih]
      · exact ih
theorem vals_without {nm x : ByteArray} (h : foldB nm ≠ foldB x) (l : List Fld) : valsW x (withoutW nm l) = valsW x l := by
  unfold valsW withoutW
  rw [List.filter_filter]
  congr 1
  refine List.filter_congr fun g _ => ?_
  by_cases h1 : foldB g.1 = foldB x
  · have : ofB nm g = false := decide_eq_false (fun e => h (e.symm.trans h1))
    rw [this, Bool.not_false, Bool.and_true]
  · rw [decide_eq_false h1, Bool.false_and]
theorem vals_ren {nm un x : ByteArray} (h : foldB nm ≠ foldB x) (h2 : foldB un ≠ foldB x) (l : List Fld) : valsW x (renW nm un l) = valsW x l := by
  unfold renW
  induction l with
  | nil => rfl
  | cons f r ih =>
    unfold valsW at ih ⊢
    rw [List.map_cons, List.filter_cons, List.filter_cons]
    cases hf : ofB nm f with
    | true =>
      have e : renF nm un f = (un, f.2) := if_pos hf
      have h3 : foldB f.1 = foldB nm := of_decide_eq_true hf
      rw [e, decide_eq_false (p := foldB f.1 = foldB x) (fun e => h (h3.symm.trans e)), decide_eq_false (p := foldB (un, f.2).1 = foldB x) h2]
      exact ih
    | false =>
      have e : renF nm un f = f := if_neg (by rw [hf]; decide)
      rw [e]
      split
      · rw [List.map_cons, List.map_cons, ih]
      · exact ih
theorem vals_act {r : Rl} {x : ByteArray} {fs : List Fld} (ht : touchW r x = false) (h : 1 ≤ r.ac ∧ r.ac ≤ 4) : valsW x (actX kn r fs) = valsW x fs := by
  unfold touchW wrR memB at ht
  unfold actX
  by_cases h4 : r.ac = 4
  · rw [if_pos h4] at ht
    simp only [List.any_cons, List.any_nil, Bool.or_false, Bool.or_eq_false_iff, decide_eq_false_iff_not] at ht
    rw [if_neg (by omega), if_neg (by omega), if_neg (by omega)]
    exact vals_ren ht.1 ht.2 fs
  · rw [if_neg h4] at ht
    simp only [List.any_cons, List.any_nil, Bool.or_false, decide_eq_false_iff_not] at ht
    split
    · exact vals_put ht fs
    split
    · unfold valsW
      rw [List.filter_append, List.filter_cons, decide_eq_false ht]
      simp
    split
    · exact vals_without ht fs
    · omega
theorem holds_vals {k : Int} {nm v : ByteArray} {a b : List Fld} (h : valsW nm a = valsW nm b) : holdsG k nm v a = holdsG k nm v b := by unfold holdsG; rw [h]
theorem contW_g (g : Int × ByteArray × ByteArray) : ∀ (last : Rl) (rs : List Rl), ∀ q ∈ rs.take (contW g last rs), q.g = g
  | _, [], q, h => by simp at h
  | last, r :: rs, q, h => by
    unfold contW at h
    split at h
    · rename_i hc
      rw [List.take_succ_cons] at h
      rcases List.mem_cons.1 h with rfl | h
      · exact hc.1
      · exact contW_g g r rs q h
    · simp at h
theorem fold_skip {g : Int × ByteArray × ByteArray} {fs : List Fld} (hg : holdsG g.1 g.2.1 g.2.2 fs = false) : ∀ (l : List Rl), (∀ q ∈ l, q.g = g) → l.foldl (fun fs r => actR kn r fs) fs = fs
  | [], _ => rfl
  | r :: rs, h => by
    have h0 : r.g = g := h r List.mem_cons_self
    have e : actR kn r fs = fs := actR_no (by rw [← h0] at hg; exact hg)
    rw [List.foldl_cons, e]
    exact fold_skip hg rs fun q hq => h q (List.mem_cons_of_mem _ hq)
theorem run_cont (g : Int × ByteArray × ByteArray) (T : List Opn) : ∀ (rs : List Rl) (last : Rl) (fs : List Fld) (n : Nat), (∀ r ∈ rs, 1 ≤ r.ac ∧ r.ac ≤ 4) → (1 ≤ last.ac ∧ last.ac ≤ 4) → holdsG g.1 g.2.1 g.2.2 fs = true →
    (runO kn ((rs.take (contW g last rs)).map ownO ++ T) (actX kn last fs) n).1 = (runO kn T ((rs.take (contW g last rs)).foldl (fun fs r => actR kn r fs) (actX kn last fs)) 0).1
  | [], last, fs, n, _, _, _ => by
    show (runO kn T (actX kn last fs) n).1 = (runO kn T (actX kn last fs) 0).1
    exact runO_0 _ _ _
  | r :: rs, last, fs, n, h1, h2, hg => by
    rw [contW]
    split
    · rename_i hc
      have hr := h1 r List.mem_cons_self
      have hg2 : holdsG g.1 g.2.1 g.2.2 (actX kn last fs) = true := by rw [holds_vals (vals_act hc.2 h2)]; exact hg
      have hy : actR kn r (actX kn last fs) = actX kn r (actX kn last fs) := actR_yes (by rw [← hc.1] at hg2; exact hg2)
      rw [List.take_succ_cons, List.map_cons, List.cons_append, run_own hr, List.foldl_cons, hy]
      exact run_cont g T rs r (actX kn last fs) (n + 1) (fun q hq => h1 q (List.mem_cons_of_mem _ hq)) hr hg2
    · show (runO kn T (actX kn last fs) n).1 = (runO kn T (actX kn last fs) 0).1
      exact runO_0 _ _ _
/-- RULES DO WHAT THEY SAY -/
theorem all_run : ∀ (m : Nat) (l : List Rl) (fs : List Fld) (n : Nat), l.length ≤ m → (∀ r ∈ l, checkR r = 0) → (runO kn (allW l) fs n).1 = l.foldl (fun fs r => actR kn r fs) fs
  | _, [], fs, n, _, _ => by rw [allW_nil, runO_nil]; rfl
  | 0, r :: rs, fs, n, h, _ => by simp at h
  | m + 1, r :: rs, fs, n, h, hc => by
    have hm : rs.length ≤ m := by simp at h; omega
    have h0 := hc r List.mem_cons_self
    have hrs : ∀ q ∈ rs, checkR q = 0 := fun q hq => hc q (List.mem_cons_of_mem _ hq)
    have ha := checkR_ac h0
    have hk := (checkR_gk h0).1
    by_cases hg : r.gk = 0
    · have hy : actR kn r fs = actX kn r fs := actR_yes (by unfold holdsG; rw [if_neg (by omega), if_neg (by omega), if_neg (by omega)])
      rw [allW_plain hg, run_own ha, List.foldl_cons, hy]
      exact all_run m rs _ (n + 1) hm hrs
    · have hg3 : 1 ≤ r.g.1 ∧ r.g.1 ≤ 3 := by show 1 ≤ r.gk ∧ r.gk ≤ 3; omega
      have hcl := contW_le r.g r rs
      rw [allW_run hg, run_guard hg3]
      have hsplit : (r :: rs).foldl (fun fs r => actR kn r fs) fs = (rs.drop (contW r.g r rs)).foldl (fun fs r => actR kn r fs) ((rs.take (contW r.g r rs)).foldl (fun fs r => actR kn r fs) (actR kn r fs)) := by
        rw [List.foldl_cons, ← List.foldl_append, List.take_append_drop]
      rw [hsplit]
      have ih := fun fs n => all_run m (rs.drop (contW r.g r rs)) fs n (by rw [List.length_drop]; omega) (fun q hq => hrs q (List.mem_of_mem_drop hq))
      cases hh : holdsG r.g.1 r.g.2.1 r.g.2.2 fs with
      | true =>
        have hy : actR kn r fs = actX kn r fs := actR_yes hh
        rw [if_pos rfl, run_own ha, run_cont r.g (allW (rs.drop (contW r.g r rs))) rs r fs (n + 1 + 1) (fun q hq => checkR_ac (hrs q hq)) ha hh, ih, hy]
      | false =>
        have hn : actR kn r fs = fs := actR_no hh
        have hd : (ownO r :: ((rs.take (contW r.g r rs)).map ownO ++ allW (rs.drop (contW r.g r rs)))).drop (contW r.g r rs + 1) = allW (rs.drop (contW r.g r rs)) := by
          rw [List.drop_succ_cons]
          have hl : ((rs.take (contW r.g r rs)).map ownO).length = contW r.g r rs := by rw [List.length_map, List.length_take]; omega
          rw [List.drop_append, hl, List.drop_of_length_le (by omega), Nat.sub_self]
          rfl
        rw [if_neg (by decide), hd, ih, hn, fold_skip hh _ (contW_g r.g r rs)]
end
theorem rlL_snoc' (l : List Rl) (r : Rl) : rlL (l ++ [r]) = rlL l ++ [r.cs] := by unfold rlL; rw [List.map_append]; rfl
theorem check35Z_p (l : List Rl) (hl : l.length ≤ 1000000) (hr : ∀ r ∈ l, r.Ok) : APure Tryz.prog 45 [.sl .no 8 (rlL l)] (.tup [.i (checkL l).1, .i (checkL l).2]) [] := by
  have el := rlL_len l
  refine APure.of rfl (ACalls.of_vc T_ok mixed Tryz.func45 rfl Tryz.call45 ?_)
  refine vc_loop [4] (fun g vals st' => ∃ k : Nat, k + g = l.length ∧ vals = [.i k] ∧ chkL l 0 = chkL (l.drop k) k) l.length rfl ⟨0, by omega, rfl, rfl⟩ ?_
  rintro g vals st' ⟨k, hk, rfl, hq⟩
  refine cnd_split (fun hd => ?_) (fun hd => ?_)
  · have hd := of_decide_eq_true hd
    have k1 : k < l.length := by omega
    have q1 := rcheck32_p l[k] (hr _ (List.getElem_mem k1))
    rw [chkL_at k1] at hq
    refine ⟨k, _, rfl, rlL_at k1, ?_⟩
    refine .p rfl q1 ?_
    generalize checkR l[k] = c at hq
    refine cnd_split (fun h2 => ?_) (fun h2 => ?_)
    · have h2 : c ≠ 0 := bne_iff_ne.1 h2
      rw [if_neg h2] at hq
      unfold checkL
      rw [hq, if_pos (fun h => by cases h)]
      rfl
    · have h2 : c = 0 := bne_eq_false_iff_eq.1 h2
      rw [if_pos h2] at hq
      intro c hc
      rw [IntWalk.i64_in _ (by omega)] at hc
      obtain rfl : c = ((k + 1 : Nat) : Int) := by omega
      exact ⟨g - 1, by omega, k + 1, by omega, rfl, hq⟩
  · have hd := of_decide_eq_false hd
    have hkl : k = l.length := by omega
    rw [hkl, List.drop_length] at hq
    have hq : chkL l 0 = (0, 0) := hq
    unfold checkL
    rw [hq, if_neg (fun h => h rfl)]
    refine cnd_split (fun h2 => ?_) (fun h2 => ?_)
    · have h2 := of_decide_eq_true h2
      rw [if_pos (by omega)]
      rfl
    · have h2 := of_decide_eq_false h2
      rw [if_neg (by omega)]
      rfl
section
variable {st : St} {R : AV → St → Prop}
attribute [local irreducible] vcApp
theorem few35H_a (l : List Rl) (h : ∀ a r st', Mv 0 (fun _ => False) st st' → HR st' 8 a r (rlL ((l.take 70).map fewR)) → (∀ p, r = some p → st.heap.length ≤ p) → R a st') : ACalls Tryz.prog 19 [.sl .no 8 (rlL l)] st R := by
  have hmx : maxLen = 9223372036854775807 := rfl
  have el := rlL_len l
  refine ACalls.of_vc T_ok mixed Tryz.func19 rfl Tryz.call19 ?_
  refine vc_loop [4, 3] (fun g vals st' => ∃ (k : Nat) (a' : AV) (r : Option Nat), k + g = (l.take 70).length ∧ vals = [.i k, a'] ∧ Mv 0 (fun _ => False) st st' ∧ HR st' 8 a' r (rlL ((l.take k).map fewR)) ∧ (∀ p, r = some p → st.heap.length ≤ p)) (l.take 70).length rfl ⟨0, .nilS, none, by omega, rfl, .refl (Nat.zero_le _), .nil, fun p e => by cases e⟩ ?_
  rintro g vals st' ⟨k, a', r, hk, rfl, m', hR, hf⟩
  have h70 : (l.take 70).length = min 70 l.length := List.length_take
  have ee : ∀ k1 : k < l.length, (l.take (k + 1)).map fewR = (l.take k).map fewR ++ [fewR l[k]] := fun k1 => by rw [List.take_succ_eq_append_getElem k1, List.map_append]; rfl
  have fin : (l.take k).length = (l.take 70).length → (l.take k).map fewR = (l.take 70).map fewR := fun e => by
    congr 1
    rw [List.length_take] at e
    by_cases hc : l.length ≤ 70
    · rw [List.take_of_length_le (by omega), List.take_of_length_le (by omega)]
    · rw [show k = 70 by omega]
  have hlk : (l.take k).length = min k l.length := List.length_take
  have done : ¬ (k < l.length ∧ k < 70) → R a' st' := fun hn => h a' r st' m' (by rw [← fin (by omega)]; exact hR) hf
  rcases hR.form with ⟨rfl, rfl⟩ | ⟨rfl, rfl⟩ | ⟨p0, c0, n0, rfl, rfl⟩
  · refine cnd_split (fun hd => ?_) (fun hd => ?_)
    · have hd := of_decide_eq_true hd
      have k1 : k < l.length := by omega
      refine cnd_split (fun h7 => ?_) (fun h7 => ?_)
      · have h7 : (k : Int) < 70 := of_decide_eq_true h7
        refine ⟨k, _, rfl, rlL_at k1, ?_⟩
        refine .p rfl (few32_p l[k]) ?_
        refine HR.app (n := 0) (i := ti29) hR rfl rfl ?_ ?_ ?_ ?_ (Nat.zero_le _) (fun p cap st2 q0 q1 q2 q3 => ?_)
        · exact List.cons_ne_nil _ _
        · intro e he
          rw [List.mem_singleton.1 he]
          exact ⟨rfl, rfl⟩
        · show ((rlL _).length + 1) * 112 ≤ _; rw [rlL_len, List.length_map]; omega
        · show (rlL _).length + 1 ≤ _; rw [rlL_len, List.length_map]; omega
        intro c hc
        rw [IntWalk.i64_in _ (by omega)] at hc
        obtain rfl : c = ((k + 1 : Nat) : Int) := by omega
        have hR2 := HR.hs (st := st2) p cap _ q0
        rw [List.length_append] at hR2
        refine ⟨g - 1, by omega, k + 1, _, some p, by omega, rfl, ?_, ?_, ?_⟩
        · exact m'.trans q1 (fun q hq e => by have := hf q e.symm; omega)
        · rw [ee k1, rlL_snoc']
          exact hR2
        · intro q e
          have e := Option.some.inj e
          subst e
          have := m'.len
          exact q2.elim (fun e => hf _ e.symm) (fun h => by omega)
      · have h7 : ¬ (k : Int) < 70 := of_decide_eq_false h7
        exact done (fun h => by omega)
    · have hd := of_decide_eq_false hd
      exact done (fun h => by omega)
  · refine cnd_split (fun hd => ?_) (fun hd => ?_)
    · have hd := of_decide_eq_true hd
      have k1 : k < l.length := by omega
      refine cnd_split (fun h7 => ?_) (fun h7 => ?_)
      · have h7 : (k : Int) < 70 := of_decide_eq_true h7
        refine ⟨k, _, rfl, rlL_at k1, ?_⟩
        refine .p rfl (few32_p l[k]) ?_
        refine HR.app (n := 0) (i := ti29) hR rfl rfl ?_ ?_ ?_ ?_ (Nat.zero_le _) (fun p cap st2 q0 q1 q2 q3 => ?_)
        · exact List.cons_ne_nil _ _
        · intro e he
          rw [List.mem_singleton.1 he]
          exact ⟨rfl, rfl⟩
        · show ((rlL _).length + 1) * 112 ≤ _; rw [rlL_len, List.length_map]; omega
        · show (rlL _).length + 1 ≤ _; rw [rlL_len, List.length_map]; omega
        intro c hc
        rw [IntWalk.i64_in _ (by omega)] at hc
        obtain rfl : c = ((k + 1 : Nat) : Int) := by omega
        have hR2 := HR.hs (st := st2) p cap _ q0
        rw [List.length_append] at hR2
        refine ⟨g - 1, by omega, k + 1, _, some p, by omega, rfl, ?_, ?_, ?_⟩
        · exact m'.trans q1 (fun q hq e => by have := hf q e.symm; omega)
        · rw [ee k1, rlL_snoc']
          exact hR2
        · intro q e
          have e := Option.some.inj e
          subst e
          have := m'.len
          exact q2.elim (fun e => hf _ e.symm) (fun h => by omega)
      · have h7 : ¬ (k : Int) < 70 := of_decide_eq_false h7
        exact done (fun h => by omega)
    · have hd := of_decide_eq_false hd
      exact done (fun h => by omega)
  · refine cnd_split (fun hd => ?_) (fun hd => ?_)
    · have hd := of_decide_eq_true hd
      have k1 : k < l.length := by omega
      refine cnd_split (fun h7 => ?_) (fun h7 => ?_)
      · have h7 : (k : Int) < 70 := of_decide_eq_true h7
        refine ⟨k, _, rfl, rlL_at k1, ?_⟩
        refine .p rfl (few32_p l[k]) ?_
        refine HR.app (n := 0) (i := ti29) hR rfl rfl ?_ ?_ ?_ ?_ (Nat.zero_le _) (fun p cap st2 q0 q1 q2 q3 => ?_)
        · exact List.cons_ne_nil _ _
        · intro e he
          rw [List.mem_singleton.1 he]
          exact ⟨rfl, rfl⟩
        · show ((rlL _).length + 1) * 112 ≤ _; rw [rlL_len, List.length_map]; omega
        · show (rlL _).length + 1 ≤ _; rw [rlL_len, List.length_map]; omega
        intro c hc
        rw [IntWalk.i64_in _ (by omega)] at hc
        obtain rfl : c = ((k + 1 : Nat) : Int) := by omega
        have hR2 := HR.hs (st := st2) p cap _ q0
        rw [List.length_append] at hR2
        refine ⟨g - 1, by omega, k + 1, _, some p, by omega, rfl, ?_, ?_, ?_⟩
        · exact m'.trans q1 (fun q hq e => by have := hf q e.symm; omega)
        · rw [ee k1, rlL_snoc']
          exact hR2
        · intro q e
          have e := Option.some.inj e
          subst e
          have := m'.len
          exact q2.elim (fun e => hf _ e.symm) (fun h => by omega)
      · have h7 : ¬ (k : Int) < 70 := of_decide_eq_false h7
        exact done (fun h => by omega)
    · have hd := of_decide_eq_false hd
      exact done (fun h => by omega)
end
/-- the fields behind rules, one by one -/
def docW (kn fs : List Fld) (sd : Int) (l : List Rl) : List Fld × Int :=
  if sd ≠ 1 ∧ sd ≠ 2 then ([], 1) else if (checkL l).2 ≠ 0 then ([], (checkL l).2) else ((sideL sd l).foldl (fun fs r => actR kn r fs) fs, 0)
theorem rules_doc (kn fs : List Fld) (sd : Int) (l : List Rl) : rulesW kn fs sd l = docW kn fs sd l := by
  unfold rulesW docW compW
  by_cases h1 : sd ≠ 1 ∧ sd ≠ 2
  · rw [if_pos h1, if_pos h1, if_pos (show (1 : Int) ≠ 0 by decide)]
  · rw [if_neg h1, if_neg h1]
    by_cases h2 : (checkL l).2 ≠ 0
    · rw [if_pos h2, if_pos h2, if_pos h2]
    · rw [if_neg h2, if_neg h2, if_neg (fun h => h rfl)]
      have h3 : (chkL l 0).2 = 0 := by
        unfold checkL at h2
        by_cases h4 : (chkL l 0).2 ≠ 0
        · rw [if_pos h4] at h2; exact absurd h4 h2
        · exact Decidable.not_not.1 h4
      have hall := (chkL_all l 0).1 h3
      have := all_run (kn := kn) _ (sideL sd l) fs 0 (Nat.le_refl _) (fun r hr => hall r (List.mem_filter.1 hr).1)
      exact Prod.ext this rfl
theorem actR_sz {kn fs : List Fld} {r : Rl} (hr : r.Ok) (hp : ∀ p ∈ r.ps, p.2.size ≤ 1000000) (hc : checkR r = 0) (h : Sz 65536 fs) : Sz 65536 (actR kn r fs) ∧ (actR kn r fs).length ≤ fs.length + 1 := by
  cases hh : holdsG r.gk r.ga r.gb fs with
  | true =>
    rw [actR_yes hh, ← own_do (checkR_ac hc)]
    exact doO_sz (ownO_ok hr hp) h
  | false =>
    rw [actR_no hh]
    exact ⟨h, by omega⟩
set_option maxHeartbeats 1000000 in
theorem rules37R_p (kn fs : List Fld) (sd : Int) (l : List Rl) (hkl : kn.length ≤ 1000000) (hkz : ∀ f ∈ kn, f.2.size ≤ 2000000) (hfl : fs.length ≤ 1000) (hfz : Sz 65536 fs) (hl : l.length ≤ 1000) (hr : ∀ r ∈ l, r.Ok ∧ (∀ p ∈ r.ps, p.2.size ≤ 1000000) ∧ r.ps.length ≤ 400) :
    APure Tryz.prog 21 [.sl .no 2 (fldL kn), .sl .no 2 (fldL fs), .i sd, .sl .no 8 (rlL l)] (.tup [.sl .no 2 (fldL (docW kn fs sd l).1), .i (docW kn fs sd l).2]) [] := by
  have el := rlL_len l
  have qc := check35Z_p l (by omega) (fun r h => (hr r h).1)
  have hall := chkL_all l 0
  obtain ⟨Z, hZ⟩ : ∃ Z, docW kn fs sd l = Z := ⟨_, rfl⟩
  rw [hZ]
  unfold docW at hZ
  have bad : ∀ e : Int, Z = ([], e) → resW (.tup [.nilS, .i e]) (.tup [.sl .no 2 (fldL Z.1), .i Z.2]) := fun e h => by
    rw [h]; exact .inr (.inr ⟨[.i e], 2, rfl, rfl⟩)
  refine APure.ofW rfl ?_
  refine ACalls.of_vc T_ok mixed Tryz.func21 rfl Tryz.call21 ?_
  have rest : (sd = 1 ∨ sd = 2) → True := fun _ => trivial
  refine cnd_split (fun h1 => ?_) (fun h1 => ?_)
  · have h1 := bne_iff_ne.1 h1
    refine cnd_split (fun h2 => ?_) (fun h2 => ?_)
    · have h2 := bne_iff_ne.1 h2
      rw [if_pos ⟨h1, h2⟩] at hZ
      exact bad 1 hZ.symm
    · have h2 := bne_eq_false_iff_eq.1 h2
      rw [if_neg (fun h => h.2 h2)] at hZ
      refine .p rfl qc ?_
      obtain ⟨ce, hce⟩ : ∃ ce, (checkL l).2 = ce := ⟨_, rfl⟩
      rw [hce] at hZ ⊢
      refine cnd_split (fun h3 => ?_) (fun h3 => ?_)
      · have h3 := bne_iff_ne.1 h3
        rw [if_pos h3] at hZ
        exact bad ce hZ.symm
      · have h3 := bne_eq_false_iff_eq.1 h3
        rw [if_neg (fun h => h h3)] at hZ
        have hok : ∀ r ∈ l, checkR r = 0 := hall.1 (by
          unfold checkL at hce
          by_cases h4 : (chkL l 0).2 ≠ 0
          · rw [if_pos h4, h3] at hce; exact hce
          · exact Decidable.not_not.1 h4)
        refine vc_loop [1, 12] (fun g vals st' => ∃ (k : Nat) (F : List Fld), k + g = l.length ∧ vals = [.sl .no 2 (fldL F), .i k] ∧ F = (sideL sd (l.take k)).foldl (fun fs r => actR kn r fs) fs ∧ F.length ≤ 1000 + k ∧ Sz 65536 F) l.length rfl ⟨0, fs, by omega, rfl, rfl, by omega, hfz⟩ ?_
        rintro g vals st1 ⟨k, F, hk, rfl, hF, hFl, hFz⟩
        refine cnd_split (fun hd => ?_) (fun hd => ?_)
        · have hd := of_decide_eq_true hd
          have k1 : k < l.length := by omega
          have hmem := List.getElem_mem k1
          obtain ⟨o1, o2, o3⟩ := hr _ hmem
          have hst := sideL_take (sd := sd) k1
          refine ⟨k, _, rfl, rlL_at k1, ?_⟩
          refine cnd_split (fun h5 => ?_) (fun h5 => ?_)
          · rw [if_pos (beq_iff_eq.1 h5)] at hst
            refine ⟨k, _, rfl, rlL_at k1, ?_⟩
            refine .p rfl (act37_p kn F l[k] ⟨hkl, hkz, by omega, hFz, o1.ga, o1.nm, o1.un, o3, o2⟩) ?_
            have hsz := actR_sz (kn := kn) o1 o2 (hok _ hmem) hFz
            intro c hc
            rw [IntWalk.i64_in _ (by omega)] at hc
            obtain rfl : c = ((k + 1 : Nat) : Int) := by omega
            exact ⟨g - 1, by omega, k + 1, _, by omega, rfl, by rw [hst, List.foldl_append, ← hF]; rfl, by omega, hsz.1⟩
          · rw [if_neg (beq_eq_false_iff_ne.1 h5), List.append_nil] at hst
            intro c hc
            rw [IntWalk.i64_in _ (by omega)] at hc
            obtain rfl : c = ((k + 1 : Nat) : Int) := by omega
            exact ⟨g - 1, by omega, k + 1, F, by omega, rfl, by rw [hst]; exact hF, by omega, hFz⟩
        · have hd := of_decide_eq_false hd
          rw [List.take_of_length_le (by omega)] at hF
          rw [← hF] at hZ
          rw [← hZ]
          exact .inl rfl
  · have h1 := bne_eq_false_iff_eq.1 h1
    rw [if_neg (fun h => h.1 h1)] at hZ
    refine .p rfl qc ?_
    obtain ⟨ce, hce⟩ : ∃ ce, (checkL l).2 = ce := ⟨_, rfl⟩
    rw [hce] at hZ ⊢
    refine cnd_split (fun h3 => ?_) (fun h3 => ?_)
    · have h3 := bne_iff_ne.1 h3
      rw [if_pos h3] at hZ
      exact bad ce hZ.symm
    · have h3 := bne_eq_false_iff_eq.1 h3
      rw [if_neg (fun h => h h3)] at hZ
      have hok : ∀ r ∈ l, checkR r = 0 := hall.1 (by
        unfold checkL at hce
        by_cases h4 : (chkL l 0).2 ≠ 0
        · rw [if_pos h4, h3] at hce; exact hce
        · exact Decidable.not_not.1 h4)
      refine vc_loop [1, 12] (fun g vals st' => ∃ (k : Nat) (F : List Fld), k + g = l.length ∧ vals = [.sl .no 2 (fldL F), .i k] ∧ F = (sideL sd (l.take k)).foldl (fun fs r => actR kn r fs) fs ∧ F.length ≤ 1000 + k ∧ Sz 65536 F) l.length rfl ⟨0, fs, by omega, rfl, rfl, by omega, hfz⟩ ?_
      rintro g vals st1 ⟨k, F, hk, rfl, hF, hFl, hFz⟩
      refine cnd_split (fun hd => ?_) (fun hd => ?_)
      · have hd := of_decide_eq_true hd
        have k1 : k < l.length := by omega
        have hmem := List.getElem_mem k1
        obtain ⟨o1, o2, o3⟩ := hr _ hmem
        have hst := sideL_take (sd := sd) k1
        refine ⟨k, _, rfl, rlL_at k1, ?_⟩
        refine cnd_split (fun h5 => ?_) (fun h5 => ?_)
        · rw [if_pos (beq_iff_eq.1 h5)] at hst
          refine ⟨k, _, rfl, rlL_at k1, ?_⟩
          refine .p rfl (act37_p kn F l[k] ⟨hkl, hkz, by omega, hFz, o1.ga, o1.nm, o1.un, o3, o2⟩) ?_
          have hsz := actR_sz (kn := kn) o1 o2 (hok _ hmem) hFz
          intro c hc
          rw [IntWalk.i64_in _ (by omega)] at hc
          obtain rfl : c = ((k + 1 : Nat) : Int) := by omega
          exact ⟨g - 1, by omega, k + 1, _, by omega, rfl, by rw [hst, List.foldl_append, ← hF]; rfl, by omega, hsz.1⟩
        · rw [if_neg (beq_eq_false_iff_ne.1 h5), List.append_nil] at hst
          intro c hc
          rw [IntWalk.i64_in _ (by omega)] at hc
          obtain rfl : c = ((k + 1 : Nat) : Int) := by omega
          exact ⟨g - 1, by omega, k + 1, F, by omega, rfl, by rw [hst]; exact hF, by omega, hFz⟩
      · have hd := of_decide_eq_false hd
        rw [List.take_of_length_le (by omega)] at hF
        rw [← hF] at hZ
        rw [← hZ]
        exact .inl rfl
def cutP (r : Rl) : Rl := { r with ps := r.ps.take 4 }
theorem cutP_ok {r : Rl} (h : r.Ok) : (cutP r).Ok := ⟨h.ga, h.gb, h.nm, h.un, Nat.le_trans (List.length_take_le _ _) (by omega), Nat.le_trans (sumT_take _ _) h.pz⟩
theorem fold_len (kn : List Fld) : ∀ (l : List Rl) (fs : List Fld), (∀ r ∈ l, r.Ok ∧ ∀ p ∈ r.ps, p.2.size ≤ 1000000) → (∀ r ∈ l, checkR r = 0) → Sz 65536 fs → (l.foldl (fun fs r => actR kn r fs) fs).length ≤ fs.length + l.length
  | [], fs, _, _, _ => Nat.le_refl _
  | r :: rs, fs, h1, h2, hz => by
    obtain ⟨o1, o2⟩ := h1 r List.mem_cons_self
    obtain ⟨z1, z2⟩ := actR_sz (kn := kn) o1 o2 (h2 r List.mem_cons_self) hz
    have := fold_len kn rs (actR kn r fs) (fun q hq => h1 q (List.mem_cons_of_mem _ hq)) (fun q hq => h2 q (List.mem_cons_of_mem _ hq)) z1
    rw [List.foldl_cons, List.length_cons]
    omega
theorem doc_len (kn fs : List Fld) (sd : Int) (l : List Rl) (h1 : ∀ r ∈ l, r.Ok ∧ ∀ p ∈ r.ps, p.2.size ≤ 1000000) (hz : Sz 65536 fs) : (docW kn fs sd l).1.length ≤ fs.length + l.length := by
  unfold docW
  split
  · exact Nat.zero_le _
  split
  · exact Nat.zero_le _
  · rename_i _ h2
    have hall := chkL_all l 0
    have h3 : (chkL l 0).2 = 0 := by
      unfold checkL at h2
      by_cases h4 : (chkL l 0).2 ≠ 0
      · rw [if_pos h4] at h2; exact absurd h4 h2
      · exact Decidable.not_not.1 h4
    have hall := hall.1 h3
    have := fold_len kn (sideL sd l) fs (fun r hr => h1 r (List.mem_filter.1 hr).1) (fun r hr => hall r (List.mem_filter.1 hr).1) hz
    have hs : (sideL sd l).length ≤ l.length := List.length_filter_le _ _
    show ((sideL sd l).foldl (fun fs r => actR kn r fs) fs).length ≤ _
    omega
def cutM (L : List Rl) (k : Nat) : List Rl := (L.take k).map cutP ++ L.drop k
theorem cutM_len (L : List Rl) (k : Nat) : (cutM L k).length = L.length := by
  unfold cutM
  rw [List.length_append, List.length_map, List.length_take, List.length_drop]
  omega
theorem cutM_at {L : List Rl} {k : Nat} (h : k < L.length) : (cutM L k)[k]? = some L[k] := by
  have hl : ((L.take k).map cutP).length = k := by rw [List.length_map, List.length_take]; omega
  unfold cutM
  rw [List.getElem?_append_right (by omega), hl, Nat.sub_self, List.getElem?_drop, Nat.add_zero, List.getElem?_eq_getElem h]
theorem cutM_set {L : List Rl} {k : Nat} (h : k < L.length) : (cutM L k).set k (cutP L[k]) = cutM L (k + 1) := by
  have hl : ((L.take k).map cutP).length = k := by rw [List.length_map, List.length_take]; omega
  unfold cutM
  rw [List.drop_eq_getElem_cons h, List.set_append, if_neg (by omega), hl, Nat.sub_self, List.set_cons_zero, List.take_succ_eq_append_getElem h, List.map_append, List.append_assoc]
  rfl
theorem cutM_0 (L : List Rl) : cutM L 0 = L := by unfold cutM; simp
theorem cutM_all (L : List Rl) : cutM L L.length = L.map cutP := by unfold cutM; simp
theorem HR.inv {st : St} {sz : Nat} {a : AV} {r : Option Nat} {es : List (List AV)} (h : HR st sz a r es) : (a = .nilS ∧ es = []) ∨ (a = .sl .tight sz [] ∧ es = []) ∨ ∃ p cap, a = .hs p 0 es.length cap sz ∧ r = some p ∧ RwS st p cap sz es := by
  cases h with
  | nil => exact .inl ⟨rfl, rfl⟩
  | tight => exact .inr (.inl ⟨rfl, rfl⟩)
  | hs p cap es h => exact .inr (.inr ⟨p, cap, rfl, rfl, h⟩)
section
attribute [local irreducible] vcApp
set_option maxHeartbeats 2000000 in
theorem machineRules_p (kn fs : List Fld) (sd : Int) (l : List Rl) (hk : ∀ f ∈ kn, f.2.size ≤ 1048576) : APure Tryz.prog 4 [.agg [.sl .no 2 (fldL kn), .sl .no 2 (fldL fs), .i sd], .sl .no 8 (rlL l)] (.b true) [] := by
  have hmx : maxLen = 9223372036854775807 := rfl
  have hfl := tk30_len fs
  have hfz := tk30_sz fs
  have hkl : (kn.take 8).length ≤ 8 := by rw [List.length_take]; omega
  have hkz : ∀ f ∈ kn.take 8, f.2.size ≤ 2000000 := fun f hf => by have := hk f (List.mem_of_mem_take hf); omega
  have hLl : ((l.take 70).map fewR).length ≤ 70 := by rw [List.length_map, List.length_take]; omega
  have hL : ∀ r ∈ (l.take 70).map fewR, r.Ok ∧ ∀ p ∈ r.ps, p.2.size ≤ 1000000 := fun r hr => by
    obtain ⟨q, _, rfl⟩ := List.mem_map.1 hr
    exact ⟨fewR_ok q, fewR_parts q⟩
  have qf := few37_p kn fs sd
  refine APure.ofZ T_ok mixed 4 Tryz.func4 rfl Tryz.call4 rfl ?_
  generalize tk30 fs = F at hfl hfz qf
  generalize kn.take 8 = KN at hkl hkz qf
  refine .p rfl awake37_p ?_
  refine ⟨_, rfl, ?_⟩
  refine .p rfl qf ?_
  refine .s (few35H_a l fun a r st0 m0 hR hf => ?_)
  generalize (l.take 70).map fewR = L at hLl hL hR
  have eL := rlL_len L
  have hC : ∀ r ∈ L.map cutP, r.Ok ∧ (∀ p ∈ r.ps, p.2.size ≤ 1000000) ∧ r.ps.length ≤ 400 := fun r hr => by
    obtain ⟨q, hq, rfl⟩ := List.mem_map.1 hr
    refine ⟨cutP_ok (hL q hq).1, fun p hp => (hL q hq).2 p (List.mem_of_mem_take hp), ?_⟩
    show (q.ps.take 4).length ≤ 400
    rw [List.length_take]; omega
  have hCl : (L.map cutP).length ≤ 70 := by rw [List.length_map]; omega
  have qy := rules37_p KN F sd (L.map cutP) (by omega) hkz (by omega) hfz (by omega) (fun r hr => ⟨(hC r hr).1, (hC r hr).2.1⟩)
  have qz := rules37R_p KN F sd (L.map cutP) (by omega) hkz (by omega) hfz (by omega) hC
  rw [← rules_doc] at qz
  have hXl : (rulesW KN F sd (L.map cutP)).1.length ≤ 1099511627776 := by
    have := doc_len KN F sd (L.map cutP) (fun r hr => ⟨(hC r hr).1, (hC r hr).2.1⟩) hfz
    rw [rules_doc]
    omega
  generalize rulesW KN F sd (L.map cutP) = Q at qy qz hXl
  obtain ⟨X, e⟩ := Q
  dsimp only at qy qz hXl
  have h0 := m0.at' (q := 0) rfl (fun e => e)
  refine ⟨_, h0, ?_⟩
  rcases hR.inv with ⟨rfl, hes⟩ | ⟨rfl, hes⟩ | ⟨p, cap, rfl, rfl, hRw⟩
  · obtain rfl : L = [] := List.length_eq_zero_iff.1 (by rw [← eL, hes]; rfl)
    refine vc_loop [5] (fun g vals st1 => vals = [.i 0] ∧ st1.heap[0]? = some [.sl .no 2 (fldL KN), .sl .no 2 (fldL F), .i sd]) 0 rfl ⟨rfl, st_eq h0⟩ ?_
    rintro g vals st1 ⟨rfl, h0⟩
    refine FrzK.mk [1, 2] [.nilS, .elt [.sl .no 2 (fldL KN), .sl .no 2 (fldL F), .i sd]] ⟨.inr (.inl ⟨rfl, rfl⟩), .inr (.inr (.inl ⟨0, 0, _, rfl, h0, rfl, rfl⟩)), trivial⟩ ?_
    first
      | refine .p rfl qy ?_
      | refine .w (args' := [.sl .no 2 (fldL KN), .sl .no 2 (fldL F), .i sd, .sl .no 8 []]) rfl ⟨.inl (.inl ⟨rfl, rfl⟩), .inl (.inl ⟨rfl, rfl⟩), .inl (.inl ⟨rfl, rfl⟩), .inr ⟨rfl, 8, rfl⟩, trivial⟩ qy ?_
    first
      | refine .p rfl qz ?_
      | refine .w (args' := [.sl .no 2 (fldL KN), .sl .no 2 (fldL F), .i sd, .sl .no 8 []]) rfl ⟨.inl (.inl ⟨rfl, rfl⟩), .inl (.inl ⟨rfl, rfl⟩), .inl (.inl ⟨rfl, rfl⟩), .inr ⟨rfl, 8, rfl⟩, trivial⟩ qz ?_
    refine .p rfl (same13_p X X (by omega) (by omega)) ?_
    refine cnd_split (fun _ => ?_) (fun h => absurd h (by rw [decide_eq_true rfl]; decide))
    show AV.b (e == e) = AV.b true
    rw [beq_self_eq_true]
  · obtain rfl : L = [] := List.length_eq_zero_iff.1 (by rw [← eL, hes]; rfl)
    refine vc_loop [5] (fun g vals st1 => vals = [.i 0] ∧ st1.heap[0]? = some [.sl .no 2 (fldL KN), .sl .no 2 (fldL F), .i sd]) 0 rfl ⟨rfl, st_eq h0⟩ ?_
    rintro g vals st1 ⟨rfl, h0⟩
    refine FrzK.mk [1, 2] [.sl .no 8 [], .elt [.sl .no 2 (fldL KN), .sl .no 2 (fldL F), .i sd]] ⟨.inr (.inl ⟨rfl, rfl⟩), .inr (.inr (.inl ⟨0, 0, _, rfl, h0, rfl, rfl⟩)), trivial⟩ ?_
    first
      | refine .p rfl qy ?_
      | refine .w (args' := [.sl .no 2 (fldL KN), .sl .no 2 (fldL F), .i sd, .sl .no 8 []]) rfl ⟨.inl (.inl ⟨rfl, rfl⟩), .inl (.inl ⟨rfl, rfl⟩), .inl (.inl ⟨rfl, rfl⟩), .inr ⟨rfl, 8, rfl⟩, trivial⟩ qy ?_
    first
      | refine .p rfl qz ?_
      | refine .w (args' := [.sl .no 2 (fldL KN), .sl .no 2 (fldL F), .i sd, .sl .no 8 []]) rfl ⟨.inl (.inl ⟨rfl, rfl⟩), .inl (.inl ⟨rfl, rfl⟩), .inl (.inl ⟨rfl, rfl⟩), .inr ⟨rfl, 8, rfl⟩, trivial⟩ qz ?_
    refine .p rfl (same13_p X X (by omega) (by omega)) ?_
    refine cnd_split (fun _ => ?_) (fun h => absurd h (by rw [decide_eq_true rfl]; decide))
    show AV.b (e == e) = AV.b true
    rw [beq_self_eq_true]
  · have hp0 : p ≠ 0 := fun e => by have : 1 ≤ p := hf p rfl; omega
    have hRw1 : RwS ⟨st0.heap.set 0 [.sl .no 2 (fldL KN), .sl .no 2 (fldL F), .i sd], st0.tk⟩ p cap 8 (rlL (cutM L 0)) := by
      obtain ⟨⟨zs, h1, h2⟩, h3, h4⟩ := hRw
      rw [cutM_0]
      exact ⟨⟨zs, st_ne (Ne.symm hp0) h1, h2⟩, h3, h4⟩
    refine vc_loop [5] (fun g vals st1 => ∃ k : Nat, k + g = L.length ∧ vals = [.i k] ∧ st1.heap[0]? = some [.sl .no 2 (fldL KN), .sl .no 2 (fldL F), .i sd] ∧ RwS st1 p cap 8 (rlL (cutM L k))) L.length rfl ⟨0, by omega, rfl, st_eq h0, hRw1⟩ ?_
    rintro g vals st1 ⟨k, hk9, rfl, h0, hRw⟩
    have eM : (rlL (cutM L k)).length = L.length := by rw [rlL_len, cutM_len]
    obtain ⟨⟨zs, hp, hz⟩, hel, hle⟩ := hRw
    refine cnd_split (fun hd => ?_) (fun hd => ?_)
    · have hd := of_decide_eq_true hd
      have k1 : k < L.length := by omega
      have k2 : k < (rlL (cutM L k)).length := by omega
      have el1 : ∀ e ∈ rlL (cutM L k), e.length = 8 := fun e he => (hel e he).1
      have hrow : (rlL (cutM L k))[k] = L[k].cs := by
        have h1 : (rlL (cutM L k))[k]? = some L[k].cs := by unfold rlL; rw [List.getElem?_map, cutM_at k1]; rfl
        rw [List.getElem?_eq_getElem k2] at h1
        exact Option.some.inj h1
      have hc7 : ((rlL (cutM L k)).flatten ++ zs)[0 + k * 8 + 7]? = some (.sl .no 2 (prtL L[k].ps)) := by
        have := rows_at (zs := zs) el1 k2 (j := 7) (by omega)
        rw [hrow] at this
        rw [Nat.zero_add]
        exact this
      have hset := rows_set1 (zs := zs) el1 k2 (j := 7) (by omega) (.sl .no 2 (prtL (L[k].ps.take 4)))
      rw [hrow, show L[k].cs.set 7 (.sl .no 2 (prtL (L[k].ps.take 4))) = (cutP L[k]).cs from rfl, show (rlL (cutM L k)).set k (cutP L[k]).cs = rlL (cutM L (k + 1)) by rw [← cutM_set k1]; unfold rlL; rw [List.map_set]] at hset
      have hlen : ((rlL (cutM L k)).flatten ++ zs).length = cap * 8 := by rw [List.length_append, rows_len el1]; exact hz
      have hq := minI_at (prtL L[k].ps).length 4
      have e4 := take_min (prtL L[k].ps) 4
      rw [prtL_take] at e4
      have eM2 : (rlL (cutM L (k + 1))).length = L.length := by rw [rlL_len, cutM_len]
      refine .n (.one 0 (.one 1 (.one 2 (.one 3 (.one 4 (.one 5 (.one 6 (.one 7 (.one 8 (.one 9 (.one 10 (.one 11 (.one 12 (.one 13 (.one 14 (.one 15 (.one 16 (.one 17 .done)))))))))))))))))) (by kernel_rfl) ?_
      refine ⟨k, rfl, by omega, ?_⟩
      refine ⟨_, hp, ld1 (c := .sl .no 2 (prtL L[k].ps)) rfl hc7 ?_⟩
      refine ⟨k, rfl, by omega, ?_⟩
      refine ⟨_, hp, ld1 (c := .sl .no 2 (prtL L[k].ps)) rfl hc7 ?_⟩
      refine ⟨_, hq, Nat.zero_le _, by split <;> omega, ?_⟩
      rw [e4]
      refine ⟨k, rfl, by omega, ?_⟩
      refine ⟨_, hp, st1' (o := 0 + k * 8 + 7) rfl (by omega) hset ?_⟩
      intro c hc
      rw [IntWalk.i64_in _ (by omega)] at hc
      obtain rfl : c = ((k + 1 : Nat) : Int) := by omega
      refine ⟨g - 1, by omega, k + 1, by omega, rfl, st_ne hp0 h0, ⟨⟨zs, st_eq hp, by omega⟩, rlL_el _, by omega⟩⟩
    · have hd := of_decide_eq_false hd
      obtain rfl : k = L.length := by omega
      rw [cutM_all] at hp hel hle hz eM
      have hsn := rows_seen (zs := zs) hel
      refine FrzK.mk [1, 2] [.sl .no 8 (rlL (L.map cutP)), .elt [.sl .no 2 (fldL KN), .sl .no 2 (fldL F), .i sd]] ⟨.inr (.inr (.inr ⟨p, 0, _, cap, 8, _, _, rfl, hp, ?_, rfl⟩)), .inr (.inr (.inl ⟨0, 0, _, rfl, h0, rfl, rfl⟩)), trivial⟩ ?_
      · have e1 : (rlL (L.map cutP)).length = (rlL L).length := by omega
        exact e1 ▸ hsn
      · refine .p rfl qy ?_
        refine .p rfl qz ?_
        refine .p rfl (same13_p X X (by omega) (by omega)) ?_
        refine cnd_split (fun _ => ?_) (fun h => absurd h (by rw [decide_eq_true rfl]; decide))
        show AV.b (e == e) = AV.b true
        rw [beq_self_eq_true]
end
end Go.Proofs.YtookaenbpfpegaaGreatDoor
