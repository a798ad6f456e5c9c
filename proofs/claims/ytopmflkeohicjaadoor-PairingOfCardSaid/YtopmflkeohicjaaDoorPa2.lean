/- PairingOf: tickets, queues, the law. No statement of its own. -/
import Derived.Test.YtopmflkeohicjaaDoorPa1
set_option maxRecDepth 100000
namespace Go.Proofs.YtopmflkeohicjaaDoor
open Go.RowKit
theorem of43_p (k c mi : Int) (m t r : ByteArray) (l : List Fld) (hl : FldOk l) : APure Tryd.prog 33 [hdA k c mi m t r (.sl .no 2 (fldL l))] (.agg [.s m, .i mi, .b (closeW l mi)]) [] := by
  have p1 := close_p k c mi m t r l hl
  generalize closeW l mi = Z at *
  refine APure.of rfl (ACalls.of_vc T_ok mixed Tryd.func33 rfl Tryd.call33 ?_)
  refine .n (.one 0 (.one 1 (.one 2 (.one 3 (.one 4 (.one 5 (.one 6 (.one 7 .done)))))))) (by kernel_rfl) ?_
  refine ⟨_, rfl, ?_⟩
  refine ⟨_, rfl, ?_⟩
  refine ⟨_, rfl, ?_⟩
  refine .p rfl p1 ?_
  refine ⟨_, rfl, ?_⟩
  refine ⟨_, rfl, ?_⟩
  rfl
theorem frontN_p : APure Tryd.prog 34 [.nilP] (.tup [.agg [.s .empty, .i 0, .b false], .b false]) [] := by
  refine APure.of rfl (ACalls.of_vc T_ok mixed Tryd.func34 rfl Tryd.call34 ?_)
  refine ⟨_, rfl, ?_⟩
  refine ⟨_, rfl, ?_⟩
  rfl
theorem pushN_p (es : List (List AV)) (hes : (AV.sl .no 3 es).dat = true) : APure Tryd.prog 36 [.nilP, .sl .no 3 es] (.i 5) [] := by
  refine APure.of rfl (ACalls.of_vc T_ok mixed Tryd.func36 rfl Tryd.call36 ?_)
  rfl
theorem popN_p : APure Tryd.prog 37 [.nilP] (.b false) [] := by
  refine APure.of rfl (ACalls.of_vc T_ok mixed Tryd.func37 rfl Tryd.call37 ?_)
  rfl
theorem lenN_p : APure Tryd.prog 38 [.nilP] (.i 0) [] := by
  refine APure.of rfl (ACalls.of_vc T_ok mixed Tryd.func38 rfl Tryd.call38 ?_)
  rfl
theorem fullN_p : APure Tryd.prog 39 [.nilP] (.b false) [] := by
  refine APure.of rfl (ACalls.of_vc T_ok mixed Tryd.func39 rfl Tryd.call39 ?_)
  rfl
theorem lastN_p : APure Tryd.prog 40 [.nilP] (.b false) [] := by
  refine APure.of rfl (ACalls.of_vc T_ok mixed Tryd.func40 rfl Tryd.call40 ?_)
  rfl
section
variable {st : St} {R : AV → St → Prop} {p : Nat}
theorem newQ_a (h : R (.tup [.ptr st.heap.length 0, .i 0]) ⟨st.heap ++ [[.nilS, .i 1, .b false]], st.tk⟩) : ACalls Tryd.prog 91 [.i 1] st R := by
  refine ACalls.of_vc T_ok mixed Tryd.func91 rfl Tryd.call91 ?_
  exact h
theorem room0_a (hp : st.heap[p]? = some [.nilS, .i 1, .b false]) (h : R (.i 1) st) : ACalls Tryd.prog 93 [.ptr p 0] st R := by
  refine ACalls.of_vc T_ok mixed Tryd.func93 rfl Tryd.call93 ?_
  refine .e (by kernel_rfl) ?_
  refine ⟨_, hp, ?_⟩
  refine ⟨_, hp, ?_⟩
  intro c hc
  rw [IntWalk.i64_in _ (by omega)] at hc
  obtain rfl : c = 1 := by omega
  exact h
theorem room1_a {tg : Tk} {e : List AV} (hp : st.heap[p]? = some [.sl tg 3 [e], .i 1, .b false]) (h : R (.i 0) st) : ACalls Tryd.prog 93 [.ptr p 0] st R := by
  refine ACalls.of_vc T_ok mixed Tryd.func93 rfl Tryd.call93 ?_
  refine .e (by kernel_rfl) ?_
  refine ⟨_, hp, ?_⟩
  refine ⟨_, hp, ?_⟩
  intro c hc
  rw [IntWalk.i64_in _ (by simp)] at hc
  obtain rfl : c = 0 := by simpa using hc
  exact h
theorem isClose_p (s : ByteArray) (n : Int) (b : Bool) : APure Tryd.prog 138 [.agg [.s s, .i n, .b b]] (.b b) [] := by
  refine APure.of rfl (ACalls.of_vc T_ok mixed Tryd.func138 rfl Tryd.call138 ?_)
  refine ⟨_, rfl, ?_⟩
  rfl
theorem index43_p (s : ByteArray) (n : Int) : APure Tryd.prog 137 [.sl .no 3 [[.s s, .i n, .b false]], .lit (.func (.func 138) #[] #[])] (.i (-1)) [] := by
  refine APure.of rfl (ACalls.of_vc T_ok mixed Tryd.func137 rfl Tryd.call137 ?_)
  refine vc_loop [8] (fun g vals st' => (g = 1 ∧ vals = [.i 0]) ∨ (g = 0 ∧ vals = [.i 1])) 1 rfl (.inl ⟨rfl, rfl⟩) ?_
  rintro g vals st' (⟨rfl, rfl⟩ | ⟨rfl, rfl⟩)
  · refine ⟨0, _, rfl, rfl, ?_⟩
    refine .p rfl (isClose_p s n false) ?_
    intro c hc
    rw [IntWalk.i64_in _ (by omega)] at hc
    obtain rfl : c = 1 := by omega
    exact ⟨0, by omega, .inr ⟨rfl, rfl⟩⟩
  · rfl
theorem early_p (s : ByteArray) (n : Int) : APure Tryd.prog 94 [.sl .no 3 [[.s s, .i n, .b false]]] (.b false) [] := by
  refine APure.of rfl (ACalls.of_vc T_ok mixed Tryd.func94 rfl Tryd.call94 ?_)
  refine .p rfl (index43_p s n) ?_
  rfl
theorem push2_a {tg : Tk} {a b : List AV} (hp : st.heap[p]? = some [.nilS, .i 1, .b false]) (h : R (.i 10) st) : ACalls Tryd.prog 36 [.ptr p 0, .sl tg 3 [a, b]] st R := by
  refine ACalls.of_vc T_ok mixed Tryd.func36 rfl Tryd.call36 ?_
  refine ⟨_, hp, ?_⟩
  refine .s (room0_a hp ?_)
  exact h
theorem put43_a {es : List (List AV)} (hes : es ≠ []) (hl : es.length ≤ 100) (hp : st.heap[p]? = some [.nilS, .i 1, .b false]) (h : R (.tup []) ⟨st.heap.set p [.sl (.own st.tk.length es.length) 3 es, .i 1, .b false], st.tk ++ [es.length]⟩) : ACalls Tryd.prog 95 [.ptr p 0, .sl .tight 3 es] st R := by
  have hmx : maxLen = 9223372036854775807 := rfl
  refine ACalls.of_vc T_ok mixed Tryd.func95 rfl Tryd.call95 ?_
  refine ⟨_, hp, ?_⟩
  refine ⟨fun e => absurd e hes, fun _ => ⟨?_, by omega, ?_⟩⟩
  · show es.length * 32 ≤ _; omega
  refine ⟨_, hp, ?_⟩
  exact h
theorem push1_a {s : ByteArray} {n : Int} (hp : st.heap[p]? = some [.nilS, .i 1, .b false]) (h : ∀ st' t, st'.heap[p]? = some [.sl t 3 [[.s s, .i n, .b false]], .i 1, .b false] → R (.i 0) st') : ACalls Tryd.prog 36 [.ptr p 0, .sl .tight 3 [[.s s, .i n, .b false]]] st R := by
  have hlt := (List.getElem?_eq_some_iff.1 hp).1
  refine ACalls.of_vc T_ok mixed Tryd.func36 rfl Tryd.call36 ?_
  refine ⟨_, hp, ?_⟩
  refine .s (room0_a hp ?_)
  refine .p rfl (early_p s n) ?_
  refine .s (put43_a (List.cons_ne_nil _ _) (by simp) hp ?_)
  intro c hc
  rw [IntWalk.i64_in _ (by simp)] at hc
  refine ⟨0, _, by simpa using hc, rfl, ?_⟩
  refine ⟨_, List.getElem?_set_self hlt, ?_⟩
  exact h _ _ (List.getElem?_set_self (by simpa using hlt))
theorem first1_a {tg : Tk} {s : ByteArray} {n : Int} (hp : st.heap[p]? = some [.sl tg 3 [[.s s, .i n, .b false]], .i 1, .b false]) (h : ∀ st', Pre st st' → R (.tup [.agg [.s s, .i n, .b false], .b true]) st') : ACalls Tryd.prog 92 [.ptr p 0] st R := by
  have hp1 : ∀ x, (st.heap ++ [x])[p]? = some [.sl tg 3 [[.s s, .i n, .b false]], .i 1, .b false] := fun x => (List.getElem?_append_left (List.getElem?_eq_some_iff.1 hp).1).trans hp
  refine ACalls.of_vc T_ok mixed Tryd.func92 rfl Tryd.call92 ?_
  refine ⟨_, hp1 _, ?_⟩
  refine ⟨_, hp1 _, ?_⟩
  refine ⟨0, _, rfl, rfl, ?_⟩
  refine ⟨_, last_at _ _, ?_⟩
  refine ⟨_, last_upd _ _ _, ?_⟩
  exact h _ ⟨_, last_set _ _ _⟩
theorem front1_a {tg : Tk} {s : ByteArray} {n : Int} (hp : st.heap[p]? = some [.sl tg 3 [[.s s, .i n, .b false]], .i 1, .b false]) (h : ∀ st', Pre st st' → R (.tup [.agg [.s s, .i n, .b false], .b true]) st') : ACalls Tryd.prog 34 [.ptr p 0] st R := by
  have hp1 : ∀ x, (st.heap ++ [x])[p]? = some [.sl tg 3 [[.s s, .i n, .b false]], .i 1, .b false] := fun x => (List.getElem?_append_left (List.getElem?_eq_some_iff.1 hp).1).trans hp
  refine ACalls.of_vc T_ok mixed Tryd.func34 rfl Tryd.call34 ?_
  refine .s (first1_a (st := ⟨st.heap ++ _, st.tk⟩) (hp1 _) fun st' hpre => ?_)
  have h0 : st'.heap[st.heap.length]? = some [.s .empty, .i 0, .b false] := hpre.at' (last_at _ _)
  have hl := (List.getElem?_eq_some_iff.1 h0).1
  refine ⟨_, h0, ?_⟩
  refine ⟨_, List.getElem?_set_self hl, ?_⟩
  refine h _ ?_
  obtain ⟨l, hl'⟩ := hpre
  refine ⟨[[.s s, .i n, .b false]] ++ l, ?_⟩
  show st'.heap.set _ _ = _
  rw [hl']
  simp
theorem full1_a {tg : Tk} {e : List AV} (hp : st.heap[p]? = some [.sl tg 3 [e], .i 1, .b false]) (h : R (.b true) st) : ACalls Tryd.prog 39 [.ptr p 0] st R := by
  refine ACalls.of_vc T_ok mixed Tryd.func39 rfl Tryd.call39 ?_
  refine .s (room1_a hp ?_)
  exact h
end
theorem awake43_p : APure Tryd.prog 32 [] (.b true) [] := by
  refine APure.of rfl (ACalls.of_vc T_ok mixed Tryd.func32 rfl Tryd.call32 ?_)
  refine .s (newQ_a ?_)
  refine .s (push2_a rfl ?_)
  refine .s (push1_a rfl fun st1 tg hp => ?_)
  refine .s (front1_a hp fun st2 hpre => ?_)
  have hp2 := hpre.at' hp
  have hp3 : ∀ x y, ((st2.heap ++ [x]).set st2.heap.length y)[0]? = some [.sl tg 3 [[.s ⟨#[71, 69, 84]⟩, .i 0, .b false]], .i 1, .b false] := fun x y => by
    rw [last_set]
    exact (List.getElem?_append_left (List.getElem?_eq_some_iff.1 hp2).1).trans hp2
  refine ⟨_, last_at _ _, ?_⟩
  refine ⟨_, last_upd _ _ _, ?_⟩
  intro b hb
  have : b = true := hb.2 rfl
  subst this
  refine .s (full1_a (hp3 _ _) ?_)
  rfl
theorem pairingOf_p (k c mi : Int) (m t r : ByteArray) (l : List Fld) : APure Tryd.prog 8 [hdA k c mi m t r (.sl .no 2 (fldL l))] (.b true) [] := by
  have hok := FldOk.few l
  have a1 := of43_p k c mi (cut400 m) (cut400 t) (cut400 r) (fewF l) hok
  have a2 := close24_p k c mi (cut400 m) (cut400 t) (cut400 r) (fewF l) hok
  have fw := few_h k c mi m t r l
  generalize closeW (fewF l) mi = Z at a1 a2
  generalize fewF l = fl at *
  generalize cut400 m = m' at *
  generalize cut400 t = t' at *
  generalize cut400 r = r' at *
  refine APure.of rfl (ACalls.of_vc T_ok mixed Tryd.func8 rfl Tryd.call8 ?_)
  refine .p rfl awake43_p ?_
  refine ⟨_, rfl, ?_⟩
  refine .p rfl fw ?_
  refine ⟨_, rfl, ?_⟩
  refine ⟨_, rfl, ?_⟩
  refine .p rfl a1 ?_
  refine ⟨_, rfl, ?_⟩
  refine .p rfl frontN_p ?_
  refine ⟨_, rfl, ?_⟩
  refine .x (by kernel_rfl) ?_
  refine ⟨_, rfl, ?_⟩
  refine ⟨_, rfl, ?_⟩
  refine ⟨_, rfl, ?_⟩
  refine ⟨_, rfl, ?_⟩
  refine .p rfl a2 ?_
  refine ⟨by kernel_rfl, fun q hq => ?_⟩
  have : q = true := hq.2 ⟨rfl, rfl, rfl, trivial⟩
  subst this
  refine ⟨_, rfl, ?_⟩
  refine .p rfl (pushN_p _ rfl) ?_
  refine .p rfl popN_p ?_
  refine .p rfl lenN_p ?_
  refine .p rfl fullN_p ?_
  refine .p rfl lastN_p ?_
  rfl
end Go.Proofs.YtopmflkeohicjaaDoor
