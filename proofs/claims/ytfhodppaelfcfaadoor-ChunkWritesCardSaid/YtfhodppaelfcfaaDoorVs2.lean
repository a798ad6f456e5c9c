/- The operations over abstract values: what they say holds of the model's run (but for append, reslicing, literals of slices, calls). No statement of its own. -/
import Derived.Test.YtfhodppaelfcfaaDoorVs1
namespace Go.Proofs.YtfhodppaelfcfaaDoor
open Go.RowKit

def Fin (P : Program) (N : Value → World → Prop) : Result Next → Prop
  | .ok (.value v) w' => N v w'
  | .ok .skip w' => N undef w'
  | .ok (.enter f args) w' => Calls P f args w' fun e w'' => ∃ v, e = .returned v ∧ N v w''
  | _ => False
theorem wp_of_fin {P : Program} {o : Oper} {a : Act} {w : World} {next : Act → World → Prop} {Q : Exit → Act → World → Prop} {N : Value → World → Prop}
    (h : Fin P N ((execOp a.eval o).run P w)) (hn : ∀ v w', N v w' → next (a.put o.dst v) w') : o.wp P a w next Q := by
  unfold Oper.wp
  generalize (execOp a.eval o).run P w = r at h
  cases r with
  | halt x w' => exact h.elim
  | ok n w' =>
    cases n <;> simp only [Fin] at h <;> simp only [Oper.upon]
    case value v => exact hn _ _ h
    case skip => exact hn _ _ h
    case enter f args => exact h.mono fun e w'' ⟨v, he, hv⟩ => by subst he; exact hn _ _ hv

section
variable {base : Nat} {J : Nat → Nat → Prop} {w0 : World} {st : St} {μ : Nat → Nat} {σ : Nat → Tkt} {w w' : World} {P : Program} {T : Tab} {K : AV → St → Prop}

/-- what stands behind an operation -/
def NN (base : Nat) (J : Nat → Nat → Prop) (w0 : World) (st : St) (μ : Nat → Nat) (σ : Nat → Tkt) (w : World) (K : AV → St → Prop) (v : Value) (w' : World) : Prop :=
  ∃ r st' μ' σ', K r st' ∧ Ok base J w0 st' μ' σ' w' ∧ Ext base J st μ σ w st' μ' σ' w' ∧ At base J st' μ' σ' w' r v
theorem NN.same (h : Ok base J w0 st μ σ w) {r : AV} {v : Value} (hk : K r st) (ha : At base J st μ σ w r v) : NN base J w0 st μ σ w K v w := ⟨r, st, μ, σ, hk, h, .refl, ha⟩

theorem Tab.Ok.und (hT : T.Ok P) {t : TypeId} {d : TypeDesc} (h : (T t).map TI.desc = some d) : P.underlying t = some d := by
  obtain ⟨i, hi, rfl⟩ := Option.map_eq_some_iff.1 h
  exact (hT t i hi).1
theorem Tab.Ok.size (hT : T.Ok P) {t : TypeId} {i : TI} (h : T t = some i) (w : World) : (sizeOf t).run P w = .ok i.size w := by
  obtain ⟨_, inf, z, h1, _, _, h2, _⟩ := hT t i h
  simp [sizeOf, typeInfo, h1, h2]
theorem Tab.Ok.isAgg (hT : T.Ok P) {t : TypeId} {i : TI} (h : T t = some i) (w : World) : (Go.isAgg t).run P w = .ok (isAggD i.desc) w := by
  have hu := (hT t i h).1
  unfold Go.isAgg
  rw [Sem.run_bind, run_underlying hu]
  cases i.desc <;> rfl
theorem Tab.Ok.zeroV (hT : T.Ok P) {t : TypeId} {i : TI} (h : T t = some i) (w : World) : ∃ z, (zeroValue t).run P w = .ok z w ∧ z.cells = i.zero.toArray := by
  obtain ⟨_, inf, z, h1, h2, h3, _⟩ := hT t i h
  exact ⟨z, by simp [zeroValue, typeInfo, h1, h2], h3⟩

/-- loading a part of a variable -/
theorem ldA_sound (hT : T.Ok P) {t : TypeId} {i : TI} (ht : T t = some i) {cs : List AV} {off b o0 : Nat} {K1 : AV → Prop} (h : ldA i cs off K1)
    (hc : ∀ (j : Nat) a, cs[j]? = some a → ∃ u, w.cell? ⟨b, o0 + j, none⟩ = some u ∧ At base J st μ σ w a u) :
    ∃ v r, (loadVar t ⟨b, o0 + off, none⟩).run P w = .ok v w ∧ K1 r ∧ At base J st μ σ w r v := by
  unfold loadVar
  rw [Sem.run_bind, hT.isAgg ht]
  unfold ldA at h
  cases hA : isAggD i.desc
  · rw [hA] at h
    simp only at h
    cases hx : cs[off]? with
    | none => rw [hx] at h; exact h.elim
    | some a =>
      rw [hx] at h
      obtain ⟨u, h1, h2⟩ := hc off a hx
      exact ⟨u, a, by simp [h1], h, h2⟩
  · rw [hA] at h
    have key : off + i.size ≤ cs.length → K1 (.agg ((cs.drop off).take i.size)) → ∃ v r, ((Result.ok true w).andThen fun a w' => Sem.run P (if a = true then (do let __do_lift ← loadCells ⟨b, o0 + off, none⟩ (← sizeOf t); pure (Value.agg __do_lift)) else load ⟨b, o0 + off, none⟩) w') = .ok v w ∧ K1 r ∧ At base J st μ σ w r v := by
      intro hle hk
      have hl : ∀ j, j < i.size → w.cell? ((⟨b, o0 + off, none⟩ : Addr).add j) = some ((w.cell? ⟨b, o0 + off + j, none⟩).getD undef) := fun j hj => by
        obtain ⟨u, h1, _⟩ := hc (off + j) _ (List.getElem?_eq_getElem (by omega))
        rw [← Nat.add_assoc] at h1
        rw [Addr.add_lit, h1]; rfl
      refine ⟨.agg ((List.range i.size).map fun j => (w.cell? ⟨b, o0 + off + j, none⟩).getD undef).toArray, _, ?_, hk, ?_⟩
      · simp [hT.size ht, run_loadCells w _ i.size _ hl]
      · refine .agg _ _ (by simp; omega) (fun j a u ha hu => ?_)
        have hj : j < i.size := by
          have := (Array.getElem?_eq_some_iff.1 hu).1
          simpa using this
        rw [List.getElem?_take, if_pos hj, List.getElem?_drop] at ha
        obtain ⟨u', h1, h2⟩ := hc _ a ha
        simp [hj] at hu
        rw [← hu, Nat.add_assoc, h1]
        exact h2
    simp only at h
    split at h
    · rename_i hle
      exact key (of_decide_eq_true hle) (listK_iff.1 h)
    · exact h.elim

theorem load_sound (hT : T.Ok P) (h : Ok base J w0 st μ σ w) {ρ : Operand → AV} {ρc : Operand → Value} (hρ : ∀ x, At base J st μ σ w (ρ x) (ρc x)) {o : Oper} {t : TypeId} {a : Operand} (ho : o.op = .load t a)
    (hv : vcOp P T (.load t a) ρ st K) : Fin P (NN base J w0 st μ σ w K) ((execOp ρc o).run P w) := by
  simp only [vcOp, listK_iff, listLK_iff, AV.fc_iff] at hv
  cases ht : T t with
  | none => rw [ht] at hv; exact hv.elim
  | some i =>
    rw [ht] at hv
    simp only at hv
    have ha := hρ a
    simp only [execOp, ho, Sem.run_bind, Instr.loadAt]
    cases hx : ρ a <;> rw [hx] at hv ha <;> try exact hv.elim
    case ptr p off =>
      obtain ⟨cs, hcs, hl⟩ := hv
      cases hp : ρc a <;> rw [hp] at ha <;> cases ha
      rename_i hlt
      obtain ⟨_, us, TT, hb, hlen, hr⟩ := h.hp p cs hcs
      obtain ⟨v, r, h1, h2, h3⟩ := ldA_sound (o0 := 0) (b := μ p) hT ht hl (fun j a ha => by
        have hj := (List.getElem?_eq_some_iff.1 ha).1
        have hu : us[j]? = some us[j] := Array.getElem?_eq_getElem (by omega)
        refine ⟨us[j], ?_, (hr j a _ ha hu).2.2⟩
        rw [Nat.zero_add, cell_block hb, hu])
      rw [Nat.zero_add] at h1
      simp only [Instr.sureAddr, Sem.run_pure, Result.andThen_ok, h1]
      exact NN.same h h2 h3
    case elt es =>
      cases hp : ρc a <;> rw [hp] at ha <;> cases ha
      rename_i g o us hf hc hr
      obtain ⟨v, r, h1, h2, h3⟩ := ldA_sound (o0 := o) (b := g) hT ht hv (fun j a ha => ⟨us j, (hc j a ha).2, hr j a ha⟩)
      rw [Nat.add_zero] at h1
      simp only [Instr.sureAddr, Sem.run_pure, Result.andThen_ok, h1]
      exact NN.same h h2 h3

theorem store_sound (hT : T.Ok P) (h : Ok base J w0 st μ σ w) {ρ : Operand → AV} {ρc : Operand → Value} (hρ : ∀ x, At base J st μ σ w (ρ x) (ρc x)) {o : Oper} {t : TypeId} {a x : Operand} (ho : o.op = .store t a x)
    (hv : vcOp P T (.store t a x) ρ st K) : Fin P (NN base J w0 st μ σ w K) ((execOp ρc o).run P w) := by
  simp only [vcOp, listK_iff, listLK_iff, AV.fc_iff] at hv
  cases ht : T t with
  | none => rw [ht] at hv; exact hv.elim
  | some i =>
    rw [ht] at hv
    simp only at hv
    have ha := hρ a
    have hxx := hρ x
    simp only [execOp, ho, Sem.run_bind, Instr.storeAt]
    cases hx : ρ a <;> rw [hx] at hv ha <;> try exact hv.elim
    rename_i p off
    simp only at hv
    split at hv
    · rename_i hck
      obtain ⟨cs, hcs, hv⟩ := hv
      split at hv
      case h_2 => exact hv.elim
      rename_i hle
      have hle := of_decide_eq_true hle
      have hk := hv
      simp only [Bool.and_eq_true, decide_eq_true_eq] at hck
      obtain ⟨⟨hs, hl⟩, hcell⟩ := hck
      have hl9 : (ρ x).cells.length = i.size := hl
      cases hp : ρc a <;> rw [hp] at ha <;> cases ha
      rename_i hlt
      obtain ⟨hl2, hr2⟩ := hxx.cells hs
      have hcell' := List.all_eq_true.1 hcell
      have hall : ∀ (j : Nat) a u, (ρ x).cells[j]? = some a → (ρc x).cells.toList[j]? = some u → a.cell = true ∧ a.old p = true ∧ At base J st μ σ w a u := fun j a u ha hu => by
        rw [Array.getElem?_toList] at hu
        exact ⟨hcell' a (List.mem_of_getElem? ha), rfl, hr2 j a u ha hu⟩
      obtain ⟨ok', ext'⟩ := h.store (off := off) hcs (vs := (ρ x).cells) (us := (ρc x).cells.toList) (by simpa using hl2) (by omega) hall
      obtain ⟨_, us, TT, hb, hlen, hr⟩ := h.hp p cs hcs
      have hlen2 : (ρc x).cells.toList.length = i.size := by simp; omega
      have hst := run_storeCells_cells (P := P) (μ p) off (ρc x).cells.toList 0 w
        (fun j hj => by rw [Nat.add_zero, cell_block hb, Array.getElem?_eq_getElem (by omega)]; rfl)
        (fun j hj => by simp [World.frozen?, hb])
        (fun v hv => by
          obtain ⟨j, hj⟩ := List.mem_iff_getElem?.1 hv
          have hjl := (List.getElem?_eq_some_iff.1 hj).1
          have haj : (ρ x).cells[j]? = some (ρ x).cells[j] := List.getElem?_eq_getElem (by simp at hjl; omega)
          exact (hall j _ v haj hj).2.2.one (hall j _ v haj hj).1)
      rw [Nat.add_zero] at hst
      have hsz : ¬ ((ρc x).cells.size ≠ i.size) := by rw [← hl2]; omega
      simp only [Instr.sureAddr, Sem.run_pure, Result.andThen_ok, storeVar, Sem.run_bind, hT.size ht, if_neg hsz, hst]
      exact ⟨_, _, _, _, hk, ok', ext', .lit _⟩
    · exact hv.elim

theorem alloc_sound (hT : T.Ok P) (h : Ok base J w0 st μ σ w) {ρ : Operand → AV} {ρc : Operand → Value} {o : Oper} {t : TypeId} (ho : o.op = .alloc t)
    (hv : vcOp P T (.alloc t) ρ st K) : Fin P (NN base J w0 st μ σ w K) ((execOp ρc o).run P w) := by
  simp only [vcOp, listK_iff, listLK_iff, AV.fc_iff] at hv
  cases ht : T t with
  | none => rw [ht] at hv; exact hv.elim
  | some i =>
    rw [ht] at hv
    simp only at hv
    obtain ⟨z, hz, hzc⟩ := hT.zeroV ht w
    split at hv
    · rename_i hall
      obtain ⟨ok', ext'⟩ := h.newVar (i.zero.map AV.lit) z.cells t (by rw [hzc]; simp) (fun j a u ha hu => by
        rw [hzc] at hu
        simp only [List.getElem?_map, Option.map_eq_some_iff] at ha
        obtain ⟨y, hy, rfl⟩ := ha
        simp [hy] at hu
        subst hu
        exact ⟨List.all_eq_true.1 hall _ (List.mem_of_getElem? hy), rfl, .lit _⟩)
      have e : (execOp ρc o).run P w = .ok (.value (.pointer (some ⟨w.heap.size, 0, none⟩))) (w.alloc (.cells z.cells t)) := by
        simp [execOp, ho, Instr.alloc, hz, newVar, newRow]
      rw [e]
      refine ⟨_, _, _, _, hv, ok', ext', ?_⟩
      have := Rp.ptr (w := w.alloc (.cells z.cells t)) (I := Im base J ⟨st.heap ++ [i.zero.map AV.lit], st.tk⟩ (upd μ st.heap.length w.heap.size) σ) (hl := st.heap.length + 1) (μ := upd μ st.heap.length w.heap.size) (tk := st.tk) (σ := σ) st.heap.length 0 (by omega)
      rw [upd_same] at this
      simpa [At] using this
    · exact hv.elim

theorem box_sound (h : Ok base J w0 st μ σ w) {ρ : Operand → AV} {ρc : Operand → Value} (hρ : ∀ x, At base J st μ σ w (ρ x) (ρc x)) {o : Oper} {t : TypeId} {x : Operand} (ho : o.op = .box t x)
    (hv : vcOp P T (.box t x) ρ st K) : Fin P (NN base J w0 st μ σ w K) ((execOp ρc o).run P w) := by
  simp only [vcOp, listK_iff, listLK_iff, AV.fc_iff] at hv
  have hxx := hρ x
  split at hv
  · rename_i hck
    obtain ⟨_, hk⟩ := olderA_iff.1 hv
    simp only [Bool.and_eq_true] at hck
    obtain ⟨hs, hcell⟩ := hck
    obtain ⟨hl2, hr2⟩ := hxx.cells hs
    obtain ⟨ok', ext'⟩ := h.newVar (ρ x).cells (ρc x).cells t hl2 (fun j a u ha hu => ⟨List.all_eq_true.1 hcell _ (List.mem_of_getElem? ha), rfl, hr2 j a u ha hu⟩)
    have e : (execOp ρc o).run P w = .ok (.value (.pointer (some ⟨w.heap.size, 0, none⟩))) (w.alloc (.cells (ρc x).cells t)) := by
      simp [execOp, ho, Instr.box, newVar, newRow]
    rw [e]
    refine ⟨_, _, _, _, hk, ok', ext', ?_⟩
    have := Rp.ptr (w := w.alloc (.cells (ρc x).cells t)) (I := Im base J ⟨st.heap ++ [(ρ x).cells], st.tk⟩ (upd μ st.heap.length w.heap.size) σ) (hl := st.heap.length + 1) (μ := upd μ st.heap.length w.heap.size) (tk := st.tk) (σ := σ) st.heap.length 0 (by omega)
    rw [upd_same] at this
    simpa [At] using this
  · exact hv.elim
end
end Go.Proofs.YtfhodppaelfcfaaDoor
