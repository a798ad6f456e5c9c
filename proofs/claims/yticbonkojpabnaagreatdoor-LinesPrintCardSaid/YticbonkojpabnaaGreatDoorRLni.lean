/- Are two scripts the same? by the document. No statement of its own. -/
import Derived.Test.YticbonkojpabnaaGreatDoorRLnf
import Derived.Test.YticbonkojpabnaaGreatDoorRLng
import Derived.Test.YticbonkojpabnaaGreatDoorRCld
import Derived.Test.YticbonkojpabnaaGreatDoorRLnd
import Derived.Test.YticbonkojpabnaaGreatDoorRLnh
import Derived.Test.YticbonkojpabnaaGreatDoorRLne
set_option linter.unusedSimpArgs false
set_option linter.unusedVariables false
set_option maxRecDepth 100000
namespace Go.Proofs.YticbonkojpabnaaGreatDoor
open Go.RowKit Go.Deep
section
theorem print_no {s : Scr} (h : (printS s).2 ≠ 0) : (printS s).1 = e0 := by
 unfold printS at h ⊢
 split
 ·rfl
 ·split
  ·rfl
  ·split
   ·rfl
   ·rename_i h1 h2 h3
    rw [if_neg h1, if_neg h2, if_neg h3] at h
    exact absurd rfl h
def sameR (a b : Scr) : Bool := decide ((printS a).2 = 0 /\ (printS b).2 = 0 /\ (printS a).1 = (printS b).1 /\ a.rules = b.rules)
structure Scr.Rz (s : Scr) : Prop where
 sz : s.Sz
 rz : ∀ r ∈ s.rules, (textB r).size <= 1099511627776
theorem sameR_p (a b : Scr) (ha : a.Rz) (hb : b.Rz) : APure Tryz.prog 15 [a.av, b.av] (.b (sameR a b)) [] := by
 have p1 := printR_p a ha.sz ha.rz
 have p2 := printR_p b hb.sz hb.rz
 have d3 := sameAll_p a.rules b.rules ha.sz.rl hb.sz.rl ha.sz.rok hb.sz.rok
 have hB : sameR a b = true ↔ (printS a).2 = 0 /\ (printS b).2 = 0 /\ (printS a).1 = (printS b).1 /\ a.rules = b.rules := by unfold sameR; rw [decide_eq_true_eq]
 generalize sameR a b = B at *
 generalize printS a = X at *
 generalize printS b = Y at *
 obtain ⟨x1, x2⟩ := X
 obtain ⟨y1, y2⟩ := Y
 refine APure.of rfl (ACalls.of_vc T_ok mixed Tryz.func15 rfl Tryz.call15 ?_)
 refine ⟨_, rfl, ?_⟩
 refine .p rfl p1 ?_
 refine ⟨_, rfl, ?_⟩
 refine .p rfl p2 ?_
 refine cnd_split (fun h1 => ?_) (fun h1 => ?_)
 rotate_left
 ·obtain rfl : B = false := by
   rw [Bool.eq_false_iff]
   intro e
   exact beq_eq_false_iff_ne.1 h1 (hB.1 e).1
  rfl
 refine cnd_split (fun h2 => ?_) (fun h2 => ?_)
 rotate_left
 ·obtain rfl : B = false := by
   rw [Bool.eq_false_iff]
   intro e
   exact beq_eq_false_iff_ne.1 h2 (hB.1 e).2.1
  rfl
 intro q hq
 cases hqq : q
 ·obtain rfl : B = false := by
   rw [Bool.eq_false_iff]
   intro e
   have := hq.2 (hB.1 e).2.2.1
   rw [hqq] at this
   cases this
  rfl
 refine ⟨_, rfl, ?_⟩
 refine ⟨_, rfl, ?_⟩
 refine .p rfl d3 ?_
 have hBB : B = decide (a.rules = b.rules) := by
  rw [Bool.eq_iff_iff, hB, decide_eq_true_eq]
  exact ⟨fun h => h.2.2.2, fun h => ⟨beq_iff_eq.1 h1, beq_iff_eq.1 h2, hq.1 hqq, h⟩⟩
 subst hBB
 rfl
/-- scripts that print are the same just where the document says so -/
theorem sameR_eq {a b : Scr} (ha : (printS a).2 = 0) (hb : (printS b).2 = 0) (ia : a.In) (ib : b.In) : sameR a b = true ↔ a = b := by
 unfold sameR
 rw [decide_eq_true_eq]
 constructor
 ·rintro ⟨_, _, h, _⟩
  obtain ⟨a1, a2, a3, a4⟩ := print_ok ha
  obtain ⟨b1, b2, b3, b4⟩ := print_ok hb
  rw [a4, b4] at h
  have h : tBy (prB a) = tBy (prB b) := h
  have r1 := read_pr a1 a2 ia (tBy_l (prB a)) (by rw [tBy_size]; omega)
  have r2 := read_pr b1 b2 ib (tBy_l (prB b)) (by rw [tBy_size]; omega)
  rw [h, r2] at r1
  exact (congrArg Prod.fst r1).symm
 ·rintro rfl
  exact ⟨ha, ha, rfl, rfl⟩
end
section
/-- a script that was read: its numbers are numbers -/
structure Scr.Raw (s : Scr) : Prop where
 inn : s.In
 evs : ∀ x ∈ s.evs, inR x.2
theorem inR_wf {n : Int} (h : (Lit.int .i64 n).wf = true) : inR n := by
 simp only [Lit.wf, Bool.and_eq_true, decide_eq_true_eq] at h
 have h2 : n <= 9223372036854775807 := h.2
 have h3 : -9223372036854775808 <= n := h.1
 exact ⟨h3, h2⟩
section
variable {W : World} {H : Type} {enc : TypeId × Value -> H} {b2 base : Nat} {spare : Nat -> Bool} {held : Bool} {v : Value} {d : DataW H} {p : List MemPlace}
theorem opens_swap (W : World) : Opens Tryz.prog W 97 2 (fun f : Swp => [AV.s f.1, AV.s f.2]) (fun _ => True) :=
 (Opens.struct Tryz.underlying97 (by kernel_rfl) (OpensF.cons (Opens.str Tryz.underlying9) rfl (by kernel_rfl) (OpensF.cons (Opens.str Tryz.underlying9) rfl (by kernel_rfl) OpensF.nil))).map (fun p => (p.1, p.2.1)) (fun _ => rfl) (fun _ _ => trivial)
theorem opens_swaps (W : World) : Opens Tryz.prog W 30 1 (fun l : List Swp => [AV.sl .no 2 (fldL l)]) (fun _ => True) :=
 (Opens.slice Tryz.underlying30 (by kernel_rfl) (by omega) (opens_swap W)).map id (fun _ => rfl) (fun _ _ => trivial)
theorem opens_event (W : World) : Opens Tryz.prog W 88 2 (fun x : Int × Int => [AV.i x.1, AV.i x.2]) (fun x => inR x.2) :=
 (Opens.struct Tryz.underlying88 (by kernel_rfl) (OpensF.cons (Opens.int Tryz.underlying86) rfl (by kernel_rfl) (OpensF.cons (Opens.int Tryz.underlying3) rfl (by kernel_rfl) OpensF.nil))).map (fun p => (p.1, p.2.1)) (fun _ => rfl) (fun _ h => inR_wf h.2.1)
theorem opens_events (W : World) : Opens Tryz.prog W 36 1 (fun l : List (Int × Int) => [AV.sl .no 2 (evL l)]) (fun l => ∀ x ∈ l, inR x.2) :=
 Opens.slice Tryz.underlying36 (by kernel_rfl) (by omega) (opens_event W)
theorem opens_rules (W : World) : Opens Tryz.prog W 35 1 (fun l : List Rl => [AV.sl .no 8 (rlL l)]) (fun _ => True) :=
 have : Inhabited Rl := ⟨zeroR⟩
 (Opens.slice Tryz.underlying35 (by kernel_rfl) (by omega) (opens_rule W)).map id (fun _ => rfl) (fun _ _ => trivial)
theorem opens_env (W : World) : Opens Tryz.prog W 32 6 (fun e : ByteArray × ByteArray × ByteArray × ByteArray × List Swp × List Swp => [AV.s e.1, AV.s e.2.1, AV.s e.2.2.1, AV.s e.2.2.2.1, AV.sl .no 2 (fldL e.2.2.2.2.1), AV.sl .no 2 (fldL e.2.2.2.2.2)]) (fun _ => True) :=
 (Opens.struct Tryz.underlying32 (by kernel_rfl) (OpensF.cons (Opens.str Tryz.underlying9) rfl (by kernel_rfl) (OpensF.cons (Opens.str Tryz.underlying9) rfl (by kernel_rfl) (OpensF.cons (Opens.str Tryz.underlying9) rfl (by kernel_rfl) (OpensF.cons (Opens.str Tryz.underlying9) rfl (by kernel_rfl) (OpensF.cons (opens_swaps W) rfl (by kernel_rfl) (OpensF.cons (opens_swaps W) rfl (by kernel_rfl) OpensF.nil))))))).map (fun p => (p.1, p.2.1, p.2.2.1, p.2.2.2.1, p.2.2.2.2.1, p.2.2.2.2.2.1)) (fun _ => rfl) (fun _ _ => trivial)
theorem opens_caps (W : World) : Opens Tryz.prog W 34 3 (fun c : Int × Int × Int => [AV.i c.1, AV.i c.2.1, AV.i c.2.2]) (fun c => inR c.1 /\ inR c.2.1 /\ inR c.2.2) :=
 (Opens.struct Tryz.underlying34 (by kernel_rfl) (OpensF.cons (Opens.int Tryz.underlying3) rfl (by kernel_rfl) (OpensF.cons (Opens.int Tryz.underlying3) rfl (by kernel_rfl) (OpensF.cons (Opens.int Tryz.underlying3) rfl (by kernel_rfl) OpensF.nil)))).map (fun p => (p.1, p.2.1, p.2.2.1)) (fun _ => rfl) (fun _ h => ⟨inR_wf h.1, inR_wf h.2.1, inR_wf h.2.2.1⟩)
theorem opens_script (W : World) : Opens Tryz.prog W 38 15 Scr.cells Scr.Raw :=
 (Opens.struct Tryz.underlying38 (by kernel_rfl) (OpensF.cons (opens_env W) rfl (by kernel_rfl) (OpensF.cons (opens_caps W) rfl (by kernel_rfl) (OpensF.cons (opens_rules W) rfl (by kernel_rfl) (OpensF.cons (Opens.str Tryz.underlying9) rfl (by kernel_rfl) (OpensF.cons (Opens.str Tryz.underlying9) rfl (by kernel_rfl) (OpensF.cons (Opens.bool Tryz.underlying4) rfl (by kernel_rfl) (OpensF.cons (Opens.bool Tryz.underlying4) rfl (by kernel_rfl) (OpensF.cons (opens_events W) rfl (by kernel_rfl) OpensF.nil))))))))).map
  (fun p => (⟨p.1.1, p.1.2.1, p.1.2.2.1, p.1.2.2.2.1, p.1.2.2.2.2.1, p.1.2.2.2.2.2, p.2.1.1, p.2.1.2.1, p.2.1.2.2, p.2.2.1, p.2.2.2.1, p.2.2.2.2.1, p.2.2.2.2.2.1, p.2.2.2.2.2.2.1, p.2.2.2.2.2.2.2.1⟩ : Scr)) (fun _ => rfl) (fun _ h => ⟨⟨h.2.1.1, h.2.1.2.1, h.2.1.2.2⟩, h.2.2.2.2.2.2.2.1⟩)
theorem open_script (hval : Value.okWide Tryz.prog W .any base 38 v) (hx : DataW.Trod enc Tryz.prog W b2 spare held 38 v d p) : ∃ s : Scr, AtR W s.av v /\ s.Raw := by
 obtain ⟨us, rfl, _⟩ := Go.WideShapes.okWide_struct Tryz.underlying38 hval
 exact Opens.agg (opens_script W) hx
end
end
section
theorem rowL_len {w : ByteArray} {l : List ByteArray} {B : Nat} (h : ∀ x ∈ l, x.size <= B) : (rowL w l).length <= w.size + l.length * (3 * B + 3) := by
 unfold rowL
 rw [List.length_append, blen]
 have : (l.flatMap fun x => 32 :: codeL x.data.toList).length <= l.length * (3 * B + 3) := by
  induction l with
  | nil => simp
  | cons x l ih =>
   have hx := h x (.head _)
   have ih := ih (fun y hy => h y (.tail _ hy))
   have hc := (codeB_size x).1
   rw [<- blen, codeB_l] at hc
   rw [List.flatMap_cons, List.length_append, List.length_cons, List.length_cons, Nat.add_mul]
   omega
 omega
theorem lines_len {l : List Ln} {B : Nat} (h : ∀ y ∈ l, y.bytes.length <= B) : (linesOf l).length <= l.length * (B + 1) := by
 induction l with
 | nil => exact Nat.zero_le _
 | cons y l ih =>
  have hy := h y (.head _)
  have ih := ih (fun x hx => h x (.tail _ hx))
  have e : linesOf (y :: l) = (y.bytes ++ [10]) ++ linesOf l := by simp [linesOf]
  have e2 : (y :: l).length * (B + 1) = l.length * (B + 1) + (B + 1) := by rw [List.length_cons, Nat.add_mul, Nat.one_mul]
  rw [e, e2, List.length_append, List.length_append]
  simp only [List.length_singleton]
  omega
theorem few_rules (s : Scr) : (fewS s).rules.length <= 70 /\ ∀ r ∈ (fewS s).rules, r.Ok /\ (textB r).size <= 10300 := by
 refine ⟨?_, fun r hr => ?_⟩
 ·show (((s.rules.take 70).map fewR).map cutP).length <= 70
  rw [List.length_map, List.length_map, List.length_take]
  omega
 ·have hr : r ∈ ((s.rules.take 70).map fewR).map cutP := hr
  obtain ⟨q, hq, rfl⟩ := List.mem_map.1 hr
  obtain ⟨q0, _, rfl⟩ := List.mem_map.1 hq
  refine ⟨cutP_ok (fewR_ok q0), ?_⟩
  have h := textB_size (cutP (fewR q0))
  have h1 : (cutP (fewR q0)).ga.size <= 60 := cut60_size _
  have h2 : (cutP (fewR q0)).gb.size <= 60 := cut60_size _
  have h3 : (cutP (fewR q0)).nm.size <= 60 := cut60_size _
  have h4 : (cutP (fewR q0)).un.size <= 60 := cut60_size _
  have h5 : (cutP (fewR q0)).ps.length <= 4 := List.length_take_le _ _
  have h6 : sumT (cutP (fewR q0)).ps <= 2400 := Nat.le_trans (sumT_take _ _) (fewT_sum _)
  omega
theorem cutS_size (x : Swp) : (cutS x).1.size <= 60 /\ (cutS x).2.size <= 60 := ⟨cut60_size _, cut60_size _⟩
theorem few_swaps {l : List Swp} {x : Swp} (h : x ∈ (l.take 70).map cutS) : x.1.size <= 60 /\ x.2.size <= 60 := by
 obtain ⟨q, _, rfl⟩ := List.mem_map.1 h
 exact cutS_size q
theorem evT_len {k n : Int} (h : inR n) : (evT k n).size <= 100 := by
 have hn := numT_size h
 have e1 : cliB.size = 7 := rfl
 have e2 : upsB.size = 9 := rfl
 have e3 : endB.size = 3 := rfl
 unfold evT
 split
 ·rw [app_size]; omega
 ·split
  ·rw [app_size]; omega
  ·split
   ·rw [app_size]; omega
   ·rw [app_size]; omega
theorem few_in {s : Scr} (h : s.Raw) : (fewS s).In := ⟨h.inn.h, h.inn.c, h.inn.q⟩
theorem few_pr {s : Scr} (h : s.Raw) : ∀ y ∈ prL (fewS s), y.bytes.length <= 12000 := by
 have hr := few_rules s
 intro y hy
 unfold prL prG bI at hy
 simp only [List.mem_append, List.mem_map] at hy
 rcases hy with hy | ⟨x, hx, rfl⟩ | ⟨x, hx, rfl⟩ | hy | ⟨x, hx, rfl⟩ | hy | hy | hy | hy | ⟨x, hx, rfl⟩
 ·rw [if_pos (by decide), List.mem_singleton] at hy
  subst hy
  refine Nat.le_trans (rowL_len (B := 60) (fun x hx => ?_)) (show 3 + 4 * (3 * 60 + 3) <= 12000 by decide)
  simp only [List.mem_cons, List.not_mem_nil, or_false] at hx
  rcases hx with rfl | rfl | rfl | rfl <;> exact cut60_size _
 ·have hz := few_swaps hx
  refine Nat.le_trans (rowL_len (B := 60) (fun z hz2 => ?_)) (show 6 + 2 * (3 * 60 + 3) <= 12000 by decide)
  simp only [List.mem_cons, List.not_mem_nil, or_false] at hz2
  rcases hz2 with rfl | rfl
  ·exact hz.1
  ·exact hz.2
 ·have hz := few_swaps hx
  refine Nat.le_trans (rowL_len (B := 60) (fun z hz2 => ?_)) (show 5 + 2 * (3 * 60 + 3) <= 12000 by decide)
  simp only [List.mem_cons, List.not_mem_nil, or_false] at hz2
  rcases hz2 with rfl | rfl
  ·exact hz.1
  ·exact hz.2
 ·rw [if_pos (by decide), List.mem_singleton] at hy
  subst hy
  have x1 := numT_size (few_in h).h
  have x2 := numT_size (few_in h).c
  have x3 := numT_size (few_in h).q
  have e1 : capsB.data.toList.length = 4 := rfl
  show (capsT _ _ _).length <= _
  unfold capsT
  simp only [List.length_append, List.length_cons, blen, e1]
  have e2 : capsB.size = 4 := rfl
  omega
 ·have hz := (hr.2 x hx).2
  show (rulP.data.toList ++ (textB x).data.toList).length <= _
  rw [List.length_append, blen, blen]
  have e2 : rulP.size = 5 := rfl
  omega
 ·rw [if_pos (by decide), List.mem_singleton] at hy
  subst hy
  refine Nat.le_trans (rowL_len (B := 3000) (fun x hx => ?_)) (show 6 + 1 * (3 * 3000 + 3) <= 12000 by decide)
  rw [List.mem_singleton.1 hx]
  exact cutN_size _ _
 ·rw [if_pos (by decide), List.mem_singleton] at hy
  subst hy
  refine Nat.le_trans (rowL_len (B := 3000) (fun x hx => ?_)) (show 8 + 1 * (3 * 3000 + 3) <= 12000 by decide)
  rw [List.mem_singleton.1 hx]
  exact cutN_size _ _
 iterate 2
  ·split at hy
   ·rw [List.mem_singleton] at hy; subst hy; decide
   ·cases hy
 ·have hx : x ∈ s.evs.take 150 := hx
  have hz := evT_len (k := x.1) (h.evs x (List.mem_of_mem_take hx))
  show (evtP.data.toList ++ (evT x.1 x.2).data.toList).length <= _
  rw [List.length_append, blen, blen]
  have e2 : evtP.size = 6 := rfl
  omega
theorem few_lines (s : Scr) : (prL (fewS s)).length <= 400 := by
 have hr := (few_rules s).1
 have h1 : (fewS s).doms.length <= 70 := by show ((s.doms.take 70).map cutS).length <= 70; rw [List.length_map, List.length_take]; omega
 have h2 : (fewS s).locs.length <= 70 := by show ((s.locs.take 70).map cutS).length <= 70; rw [List.length_map, List.length_take]; omega
 have h3 : (fewS s).evs.length <= 150 := by show (s.evs.take 150).length <= 150; rw [List.length_take]; omega
 have hb : ∀ (b : Bool) (y : Ln), (bI b y).length <= 1 := fun b y => by cases b <;> simp [bI]
 unfold prL prG
 simp only [List.length_append, List.length_map]
 have b1 := hb (decide (1 <= 7)) (.env (fewS s).ec (fewS s).eh (fewS s).es (fewS s).eb)
 have b2 := hb (decide (4 <= 7)) (.caps (fewS s).ch (fewS s).cc (fewS s).cq)
 have b3 := hb (decide (6 <= 7)) (.cli (fewS s).cl)
 have b4 := hb (decide (7 <= 7)) (.ups (fewS s).up)
 have b5 := hb (fewS s).ce .ce
 have b6 := hb (fewS s).ue .ue
 omega
theorem few_tot {s : Scr} (h : s.Raw) : (prB (fewS s)).length <= 4800400 := by
 have h1 := lines_len (few_pr h)
 have h2 := few_lines s
 have h3 : (prL (fewS s)).length * (12000 + 1) <= 400 * (12000 + 1) := Nat.mul_le_mul_right _ h2
 show (linesOf _).length <= _
 omega
theorem few_rz {s : Scr} (h : s.Raw) : (fewS s).Rz := by
 have hr := few_rules s
 have ht := few_tot h
 have c6 : ∀ x : ByteArray, (cut60 x).size <= 1099511627776 := fun x => Nat.le_trans (cut60_size x) (by decide)
 refine ⟨⟨c6 _, c6 _, c6 _, c6 _, ?_, fun x hx => ?_, ?_, fun x hx => ?_, few_in h, by omega, fun r hr' => (hr.2 r hr').1, Nat.le_trans (cutN_size _ _) (by decide), Nat.le_trans (cutN_size _ _) (by decide), ?_, by omega⟩, fun r hr' => by have := (hr.2 r hr').2; omega⟩
 ·show ((s.doms.take 70).map cutS).length <= _; rw [List.length_map, List.length_take]; omega
 ·have := few_swaps (l := s.doms) hx; omega
 ·show ((s.locs.take 70).map cutS).length <= _; rw [List.length_map, List.length_take]; omega
 ·have := few_swaps (l := s.locs) hx; omega
 ·show (s.evs.take 150).length <= _; rw [List.length_take]; omega
theorem few_small {s : Scr} (h : s.Raw) (h1 : okRu (fewS s) = true) (h2 : okEv (fewS s) = true) : ∀ x ∈ linesB (tBy (prB (fewS s))), x.size <= 100000 := by
 have ho := pr_all h1 h2 (few_in h)
 rw [linesB_of (s := tBy (prB (fewS s))) ho (tBy_l _)]
 intro x hx
 rcases List.mem_append.1 hx with hx | hx
 ·obtain ⟨y, hy, rfl⟩ := List.mem_map.1 hx
  have := few_pr h y hy
  rw [<- blen, lnB_l]
  omega
 ·rw [List.mem_singleton.1 hx]; decide
set_option maxHeartbeats 4000000 in
theorem linesPrint_p (s o : Scr) (hs : s.Raw) (ho : o.Raw) : APure Tryz.prog 4 [s.av, o.av] (.b true) [] := by
 have f1 := few46_p s
 have f2 := few46_p o
 have ra := few_rz hs
 have rb := few_rz ho
 have ia := few_in hs
 have ib := few_in ho
 have hsm := few_small hs
 generalize fewS s = a at *
 generalize fewS o = b at *
 have p1 := print_p a ra.sz
 have p2 := printR_p a ra.sz ra.rz
 have p3 := print_p b rb.sz
 by_cases hp : (printS a).2 = 0
 ·obtain ⟨g1, g2, g3, g4⟩ := print_ok hp
  have g4 : printS a = (tBy (prB a), 0) := g4
  have q1 := parse_p (tBy (prB a)) (by rw [tBy_size]; exact g3) (hsm g1 g2)
  rw [read_pr g1 g2 ia (tBy_l (prB a)) (by rw [tBy_size]; exact g3)] at q1
  have s1 := sameR_p a a ra ra
  rw [(sameR_eq hp hp ia ia).2 rfl] at s1
  have s2 := same47_p a a ra.sz ra.sz (B := true) ⟨fun _ => rfl, fun _ => rfl⟩
  have s3 := sameR_p a b ra rb
  obtain ⟨B, hB⟩ : ∃ B : Bool, B = true ↔ a = b := by
   by_cases h : a = b
   ·exact ⟨true, fun _ => h, fun _ => rfl⟩
   ·exact ⟨false, fun e => (by cases e), fun e => absurd e h⟩
  have s4 := same47_p a b ra.sz rb.sz hB
  have hsb : (printS b).2 = 0 -> sameR a b = B := fun hb => by
   rw [Bool.eq_iff_iff, hB]
   exact sameR_eq hp hb ia ib
  rw [g4] at p1 p2
  clear g4 hsm hp g1 g2 g3
  generalize tBy (prB a) = T at *
  generalize sameR a b = B2 at *
  generalize printS b = Y at *
  obtain ⟨y1, y2⟩ := Y
  refine APure.of rfl (ACalls.of_vc T_ok mixed Tryz.func4 rfl Tryz.call4 ?_)
  refine .p rfl awake47_p ?_
  refine .n (.one 0 (.one 2 (.one 1 (.one 3 (.one 4 (.one 5 .done)))))) (by kernel_rfl) ?_
  refine ⟨_, rfl, ?_⟩
  refine ⟨_, rfl, ?_⟩
  refine .p rfl f1 ?_
  refine .p rfl f2 ?_
  refine ⟨_, rfl, lkI (setAllF rfl) ?_⟩
  refine ⟨_, rfl, lkI (setAllF rfl) ?_⟩
  refine ⟨_, rfl, ?_⟩
  refine .p rfl p1 ?_
  refine ⟨_, rfl, ?_⟩
  refine .p rfl p2 ?_
  intro q hq
  obtain rfl : q = false := hq.2 rfl
  refine .p rfl q1 ?_
  refine ⟨_, rfl, ?_⟩
  refine ⟨_, rfl, ?_⟩
  refine .p rfl p3 ?_
  refine .x (by kernel_rfl) ?_
  refine ⟨_, rfl, ?_⟩
  refine ⟨_, rfl, ?_⟩
  refine .p rfl s1 ?_
  refine ⟨_, rfl, ?_⟩
  refine ⟨_, rfl, ?_⟩
  refine .p rfl s2 ?_
  by_cases hy : y2 = 0
  ·subst hy
   have hsb := hsb rfl
   subst hsb
   refine ⟨_, rfl, ?_⟩
   refine ⟨_, rfl, ?_⟩
   refine .p rfl s4 ?_
   refine ⟨_, rfl, ?_⟩
   refine ⟨_, rfl, ?_⟩
   refine .p rfl s3 ?_
   cases B2 <;> rfl
  ·refine cnd_split (fun h => ?_) (fun h => absurd (bne_eq_false_iff_eq.1 h) hy)
   rfl
 ·have hno := print_no hp
  clear hsm
  generalize printS a = X at *
  obtain ⟨x1, x2⟩ := X
  have hno : x1 = ⟨#[]⟩ := hno
  have hp : x2 ≠ 0 := hp
  subst hno
  refine APure.of rfl (ACalls.of_vc T_ok mixed Tryz.func4 rfl Tryz.call4 ?_)
  refine .p rfl awake47_p ?_
  refine .n (.one 0 (.one 2 (.one 1 (.one 3 (.one 4 (.one 5 .done)))))) (by kernel_rfl) ?_
  refine ⟨_, rfl, ?_⟩
  refine ⟨_, rfl, ?_⟩
  refine .p rfl f1 ?_
  refine .p rfl f2 ?_
  refine ⟨_, rfl, lkI (setAllF rfl) ?_⟩
  refine ⟨_, rfl, lkI (setAllF rfl) ?_⟩
  refine ⟨_, rfl, ?_⟩
  refine .p rfl p1 ?_
  refine ⟨_, rfl, ?_⟩
  refine .p rfl p2 ?_
  intro q hq
  obtain rfl : q = false := hq.2 rfl
  refine cnd_split (fun h => absurd rfl (bne_iff_ne.1 h)) (fun h => ?_)
  refine cnd_split (fun h => ?_) (fun h => absurd (bne_eq_false_iff_eq.1 h) hp)
  intro q hq
  obtain rfl : q = true := hq.2 rfl
  rfl
end
end Go.Proofs.YticbonkojpabnaaGreatDoor
