/- What rules do, by their words: a map of functions. No statement of its own. -/
import Derived.Test.YtgaidgblihnldaaGreatDoorVq
import Derived.Test.YtgaidgblihnldaaGreatDoorTab
import Derived.Test.YtgaidgblihnldaaGreatDoorRp
set_option linter.unusedSimpArgs false
set_option linter.unusedVariables false
set_option maxRecDepth 100000
namespace Go.Proofs.YtgaidgblihnldaaGreatDoor
open Go.RowKit
theorem insM {P : Program} {w : World} {g clock : Nat} {es : Array MapEntry} {k : ByteArray} {v : Value} {mt kt et : TypeId} (hm : P.underlying mt = some (.map kt et)) (hk : P.underlying kt = some .string) (hg : w.heap[g]? = some (.map es clock))
    (hnew : Instr.findNow .string (.string k) es.toList 0 = some none) :
    (Instr.mapUpdate mt (.map (some g)) (.string k) v).run P w = .ok () { w with heap := w.heap.setIfInBounds g (.map (es.push { key := .string k, val := v, born := clock }) (clock + 1)) } := by
  have c1 : (Instr.checkKey false 10000 kt (.string k)).run P w = .ok () w := MapKept.run_checkKey hk (by simp [MapKept.IsKey]) _ _
  simp [Instr.mapUpdate, run_underlying hm, MapKept.run_getObj_map hg, c1, MapKept.run_findKey hk hnew, MapKept.run_setObj_map _ hg, Result.andThen]
theorem mapW_at (w : World) (o : Obj) : (w.alloc o).heap[w.heap.size]? = some o := heap_alloc_new w o
theorem mapW_set (w : World) (o o' : Obj) : ({ w.alloc o with heap := (w.alloc o).heap.setIfInBounds w.heap.size o' } : World) = w.alloc o' := by
  have e : (w.heap.push o).setIfInBounds w.heap.size o' = w.heap.push o' := by
    apply Array.ext'
    simp
  show World.mk .. = World.mk ..
  simp only [World.alloc, e]
theorem insW {P : Program} {w : World} {clock : Nat} {es : Array MapEntry} {k : ByteArray} {v : Value} {mt kt et : TypeId} (hm : P.underlying mt = some (.map kt et)) (hk : P.underlying kt = some .string)
    (hnew : Instr.findNow .string (.string k) es.toList 0 = some none) :
    (Instr.mapUpdate mt (.map (some w.heap.size)) (.string k) v).run P (w.alloc (.map es clock)) = .ok () (w.alloc (.map (es.push { key := .string k, val := v, born := clock }) (clock + 1))) := by
  rw [insM hm hk (mapW_at w _) hnew, mapW_set]
def fnV (k : Nat) : Value := .func (.func k) #[] #[]
def eSet : MapEntry := { key := .string kSet, val := fnV 112, born := 0 }
def eAdd : MapEntry := { key := .string kAdd, val := fnV 113, born := 1 }
def eRem : MapEntry := { key := .string kRem, val := fnV 114, born := 2 }
def eRen : MapEntry := { key := .string kRen, val := fnV 115, born := 3 }
def actsE : Array MapEntry := #[eSet, eAdd, eRem, eRen]
theorem acts_c (w : World) : Calls Tryz.prog 82 #[] w fun e w' => e = .returned (.map (some w.heap.size)) ∧ w' = w.alloc (.map actsE 4) := by
  have hm := Tryz.underlying122
  have hk := Tryz.underlying9
  have i0 : ∀ v, (Instr.mapUpdate _ (.map (some w.heap.size)) (.string kSet) v).run Tryz.prog (w.alloc (.map #[] 0)) = _ := fun v => insW hm hk rfl
  have i1 : ∀ v, (Instr.mapUpdate _ (.map (some w.heap.size)) (.string kAdd) v).run Tryz.prog (w.alloc (.map #[eSet] 1)) = _ := fun v => insW hm hk (by kernel_rfl)
  have i2 : ∀ v, (Instr.mapUpdate _ (.map (some w.heap.size)) (.string kRem) v).run Tryz.prog (w.alloc (.map #[eSet, eAdd] 2)) = _ := fun v => insW hm hk (by kernel_rfl)
  have i3 : ∀ v, (Instr.mapUpdate _ (.map (some w.heap.size)) (.string kRen) v).run Tryz.prog (w.alloc (.map #[eSet, eAdd, eRem] 3)) = _ := fun v => insW hm hk (by kernel_rfl)
  go_enter Tryz.func82, Tryz.ntmps82
  go_wp2_with fail
  rw [run_makeMap]
  simp only [eSet, eAdd, eRem, eRen, fnV, kSet, kAdd, kRem, kRen, List.push_toArray, List.cons_append, List.nil_append] at i0 i1 i2 i3
  simp only [Result.andThen, Oper.upon]
  go_wp2_with fail
  go_ret
  exact ⟨rfl, rfl⟩
/-- what a word stands for -/
def ActK (word : ByteArray) (k : Nat) : Prop := (word = kSet ∧ k = 112) ∨ (word = kAdd ∧ k = 113) ∨ (word = kRem ∧ k = 114) ∨ (word = kRen ∧ k = 115)
def ActIs (word : ByteArray) (act : Value) (ok : Bool) : Prop :=
  (∃ k, ActK word k ∧ act = fnV k ∧ ok = true) ∨ (word ≠ kSet ∧ word ≠ kAdd ∧ word ≠ kRem ∧ word ≠ kRen ∧ act = .nilFunc ∧ ok = false)
theorem look_c (w : World) (word : ByteArray) : ∃ act ok, ActIs word act ok ∧ (Instr.lookup 122 (.map (some w.heap.size)) (.string word) true).run Tryz.prog (w.alloc (.map actsE 4)) = .ok (.tuple #[act, .bool ok]) (w.alloc (.map actsE 4)) := by
  have hm := Tryz.underlying122
  have hk := Tryz.underlying9
  have c1 : ∀ w' : World, (Instr.checkKey false 10000 9 (.string word)).run Tryz.prog w' = .ok () w' := fun w' => MapKept.run_checkKey hk (by simp [MapKept.IsKey]) _ _
  have hz : ∀ w' : World, (zeroValue 120).run Tryz.prog w' = .ok .nilFunc w' := fun w' => by
    have h1 : (Tryz.prog.info? 120).map (fun i => i.zero) = some (some .nilFunc) := by kernel_rfl
    obtain ⟨inf, h2, h3⟩ := Option.map_eq_some_iff.1 h1
    simp [zeroValue, typeInfo, h2, h3]
  have fin : ∀ r act ok, Instr.findNow .string (.string word) actsE.toList 0 = some r → (r = none ∧ act = .nilFunc ∧ ok = false ∨ ∃ i, r = some (i, act) ∧ ok = true) →
      (Instr.lookup 122 (.map (some w.heap.size)) (.string word) true).run Tryz.prog (w.alloc (.map actsE 4)) = .ok (.tuple #[act, .bool ok]) (w.alloc (.map actsE 4)) := by
    intro r act ok hr hc
    have hf := MapKept.run_findKey (P := Tryz.prog) (w := w.alloc (.map actsE 4)) hk hr
    have hg := MapKept.run_getObj_map (P := Tryz.prog) (w := w.alloc (.map actsE 4)) (heap_alloc_new w (.map actsE 4))
    have he : actsE.isEmpty = false := rfl
    rcases hc with ⟨rfl, rfl, rfl⟩ | ⟨i, rfl, rfl⟩
    · simp [Instr.lookup, run_underlying hm, hg, he, c1, hf, hz, Result.andThen]
    · simp [Instr.lookup, run_underlying hm, hg, he, c1, hf, Result.andThen]
  have nb : ∀ {a b : ByteArray}, a ≠ b → (a == b) = false := fun {a b} h => by
    cases e : a == b with
    | false => rfl
    | true => exact absurd ((MapKept.bytes_beq a b).1 e) h
  by_cases h1 : word = kSet
  · subst h1
    exact ⟨_, _, .inl ⟨_, .inl ⟨rfl, rfl⟩, rfl, rfl⟩, fin (some (0, _)) _ _ (by simp [actsE, Instr.findNow, Instr.sameNow, eSet]; rfl) (.inr ⟨0, rfl, rfl⟩)⟩
  by_cases h2 : word = kAdd
  · subst h2
    exact ⟨_, _, .inl ⟨_, .inr (.inl ⟨rfl, rfl⟩), rfl, rfl⟩, fin (some (1, _)) _ _ (by simp [actsE, Instr.findNow, Instr.sameNow, eSet, eAdd, nb h1]; rfl) (.inr ⟨1, rfl, rfl⟩)⟩
  by_cases h3 : word = kRem
  · subst h3
    exact ⟨_, _, .inl ⟨_, .inr (.inr (.inl ⟨rfl, rfl⟩)), rfl, rfl⟩, fin (some (2, _)) _ _ (by simp [actsE, Instr.findNow, Instr.sameNow, eSet, eAdd, eRem, nb h1, nb h2]; rfl) (.inr ⟨2, rfl, rfl⟩)⟩
  by_cases h4 : word = kRen
  · subst h4
    exact ⟨_, _, .inl ⟨_, .inr (.inr (.inr ⟨rfl, rfl⟩)), rfl, rfl⟩, fin (some (3, _)) _ _ (by simp [actsE, Instr.findNow, Instr.sameNow, eSet, eAdd, eRem, eRen, nb h1, nb h2, nb h3]; rfl) (.inr ⟨3, rfl, rfl⟩)⟩
  · exact ⟨_, _, .inr ⟨h1, h2, h3, h4, rfl, rfl⟩, fin none _ _ (by simp [actsE, Instr.findNow, Instr.sameNow, eSet, eAdd, eRem, eRen, nb h1, nb h2, nb h3, nb h4]) (.inl ⟨rfl, rfl, rfl⟩)⟩
/-- the region that looks a word up -/
theorem acts_sem {bv : Bool} {id : Nat} {ops : Array Oper} {o0 o1 o2 : Oper} {rest : List Oper} {d0 d1 d2 : Nat} {x : Operand} {c0 : Call} {word : ByteArray} {Q : Exit → Fr → St → Prop} {fr : Fr} {st : St}
    (ho : ops.toList = o0 :: o1 :: o2 :: rest) (e0 : o0.guard = none ∧ o0.op = .call c0 ∧ c0.callee = .value (.func 82) ∧ c0.args = #[] ∧ o0.dst = some d0) (e1 : o1.guard = none ∧ o1.op = .move x ∧ o1.dst = some d1)
    (e2 : o2.guard = none ∧ o2.op = .lookup 122 (.tmp d0) (.tmp d1) true ∧ o2.dst = some d2) (hne : d0 ≠ d1) (hd : (Nat.blt d0 fr.length && Nat.blt d1 fr.length) = true) (hx : (fr.put (some d0) .top).ev x = .s word)
    (hQ : ∀ act ok, ActIs word act ok → Fr.putK fr (some d0) .top fun f1 => Fr.putK f1 (some d1) (.s word) fun f2 => Fr.putK f2 (some d2) (.tup [.lit act, .b ok]) fun f3 => vcOpsY Tryz.prog T bv ops rest f3 st (fun fr' st' => Q .normal fr' st') (fun ch fr' st' => Q (.panic ch) fr' st')) :
    Sem1 Tryz.prog (.region id ops false) Q fr st := by
  intro base J w0 μ σ a w D h hf hdf
  have hd : d0 < fr.length ∧ d1 < fr.length := by
    rw [Bool.and_eq_true, Nat.blt_eq, Nat.blt_eq] at hd
    exact hd
  obtain ⟨g0, p0, q0, r0, s0⟩ := e0
  obtain ⟨g1, p1, s1⟩ := e1
  obtain ⟨g2, p2, s2⟩ := e2
  refine wp_region_list ?_
  rw [ho]
  have wn : ∀ (o : Oper) y, o.guard = none → Region.wanted o y = true := fun o y hg => by simp [Region.wanted, hg]
  obtain ⟨ok1, ext1⟩ := h.step (below_alloc w (.map actsE 4))
  have hf1 := (hf.ext ext1).put (some d0) (.top (Value.map (some w.heap.size)))
  have hxv := hf1.ev x
  rw [hx] at hxv
  have hxv := hxv.of_lit
  have hf2 := hf1.put (a := a.put (some d0) (Value.map (some w.heap.size))) (some d1) (.lit (Value.string word))
  obtain ⟨act, ok, ha, hrun⟩ := look_c w word
  have hf3 := hf2.put (a := (a.put (some d0) (Value.map (some w.heap.size))).put (some d1) (Value.string word)) (r := .tup [.lit act, .b ok]) (v := .tuple #[act, .bool ok]) (some d2) (.tup _ _ rfl fun j b u hb hu => by
    match j, hb, hu with
    | 0, hb, hu => simp at hb hu; subst hb; subst hu; exact .lit _
    | 1, hb, hu => simp at hb hu; subst hb; subst hu; exact .lit _
    | j + 2, hb, hu => simp at hb)
  have hk := hQ act ok ha
  simp only [Fr.putK_iff] at hk
  unfold wpList
  rw [if_pos (wn _ _ g0)]
  refine .inl ?_
  unfold Oper.wp
  have er : (execOp a.eval o0).run Tryz.prog w = .ok (.enter 82 #[]) w := by
    simp [execOp, p0, resolve, q0, r0, Act.eval, Deferred.ofValue, invoke, Tryz.call82]
  rw [er]
  simp only [Oper.upon]
  refine (acts_c w).mono ?_
  rintro e w1 ⟨rfl, rfl⟩
  show wpList _ _ _ _ _ _
  rw [s0]
  unfold wpList
  rw [if_pos (wn _ _ g1)]
  refine .inl ?_
  unfold Oper.wp
  have er : (execOp (a.put (some d0) (Value.map (some w.heap.size))).eval o1).run Tryz.prog (w.alloc (.map actsE 4)) = .ok (.value (.string word)) (w.alloc (.map actsE 4)) := by
    simp [execOp, p1, hxv]
  rw [er]
  simp only [Oper.upon]
  rw [s1]
  unfold wpList
  rw [if_pos (wn _ _ g2)]
  refine .inl ?_
  unfold Oper.wp
  have v0 : ((a.put (some d0) (Value.map (some w.heap.size))).put (some d1) (Value.string word)).eval (.tmp d0) = .map (some w.heap.size) := by
    have hl := hf.1
    simp [Act.eval, Act.put, Array.getD_eq_getD_getElem?, Array.getElem?_setIfInBounds, Ne.symm hne, hne]
    rw [if_pos (by omega)]
    rfl
  have v1 : ((a.put (some d0) (Value.map (some w.heap.size))).put (some d1) (Value.string word)).eval (.tmp d1) = .string word := by
    have hl := hf.1
    simp [Act.eval, Act.put, Array.getD_eq_getD_getElem?, Array.getElem?_setIfInBounds]
    rw [if_pos (by omega)]
    rfl
  have er : (execOp ((a.put (some d0) (Value.map (some w.heap.size))).put (some d1) (Value.string word)).eval o2).run Tryz.prog (w.alloc (.map actsE 4)) = .ok (.value (.tuple #[act, .bool ok])) (w.alloc (.map actsE 4)) := by
    simp [execOp, p2, v0, v1, hrun]
  rw [er]
  simp only [Oper.upon]
  rw [s2]
  exact vcOpsY_sound T_ok rest ok1 hf3 (by simp only [Act.put_defers', hdf]) (fun a' w' hr => hr.ext ext1) (fun ch a' w' hr => hr.ext ext1) hk
end Go.Proofs.YtgaidgblihnldaaGreatDoor
