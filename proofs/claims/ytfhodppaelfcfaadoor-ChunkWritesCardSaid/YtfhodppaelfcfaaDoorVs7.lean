/- The operations over abstract values: struct and slice literals, calls; all operations together. No statement of its own. -/
import Derived.Test.YtfhodppaelfcfaaDoorVs6
namespace Go.Proofs.YtfhodppaelfcfaaDoor
open Go.RowKit

theorem zip_fold (us cs : Array Value) (off : Nat) (hle : off + cs.size ≤ us.size) :
    (cs.zipIdx.foldl (fun (a : Array Value) (c, j) => a.setIfInBounds (off + j) c) us).size = us.size ∧
    ∀ (q : Nat), (cs.zipIdx.foldl (fun (a : Array Value) (c, j) => a.setIfInBounds (off + j) c) us)[q]? = if off ≤ q ∧ q < off + cs.size then cs[q - off]? else us[q]? := by
  have key : ∀ (n : Nat), n ≤ cs.size → ((cs.zipIdx.toList.take n).foldl (fun (a : Array Value) (c, j) => a.setIfInBounds (off + j) c) us).size = us.size ∧
      ∀ (q : Nat), ((cs.zipIdx.toList.take n).foldl (fun (a : Array Value) (c, j) => a.setIfInBounds (off + j) c) us)[q]? = if off ≤ q ∧ q < off + n then cs[q - off]? else us[q]? := by
    intro n
    induction n with
    | zero => intro _; exact ⟨rfl, fun q => by rw [if_neg (by omega)]; rfl⟩
    | succ n ih =>
      intro hn
      obtain ⟨i1, i2⟩ := ih (by omega)
      have hz : cs.zipIdx.toList[n]? = some (cs[n], n) := by simp
      have htk : cs.zipIdx.toList.take (n + 1) = cs.zipIdx.toList.take n ++ [(cs[n], n)] := by
        rw [List.take_add_one, hz]; rfl
      rw [htk, List.foldl_append]
      refine ⟨by simpa using i1, fun q => ?_⟩
      simp only [List.foldl_cons, List.foldl_nil]
      rw [Array.getElem?_setIfInBounds]
      by_cases e : off + n = q
      · subst e
        have hin : off + n < us.size := by omega
        rw [if_pos rfl, if_pos (by rw [i1]; exact hin), if_pos (by omega)]
        simp
      · rw [if_neg e, i2 q]
        by_cases h3 : off ≤ q ∧ q < off + n
        · rw [if_pos h3, if_pos (by omega)]
        · rw [if_neg h3, if_neg (by omega)]
  have hall : cs.zipIdx.toList.take cs.size = cs.zipIdx.toList := List.take_of_length_le (by simp)
  have := key cs.size (Nat.le_refl _)
  rw [hall] at this
  rw [← Array.foldl_toList]
  exact this

section
variable {base : Nat} {J : Nat → Nat → Prop} {w0 : World} {st : St} {μ : Nat → Nat} {σ : Nat → Tkt} {w w' : World} {P : Program} {T : Tab} {K : AV → St → Prop}

theorem run_mapM_list {α β : Type} (g : α → Sem β) (f : α → β) : ∀ (l : List α), (∀ x ∈ l, (g x).run P w = .ok (f x) w) → (l.mapM g).run P w = .ok (l.map f) w
  | [], _ => by simp
  | x :: l, h => by
    have := run_mapM_list g f l (fun y hy => h y (List.mem_cons_of_mem _ hy))
    simp [h x List.mem_cons_self, this]
theorem run_mapM {α β : Type} (g : α → Sem β) (f : α → β) (xs : Array α) (h : ∀ x ∈ xs.toList, (g x).run P w = .ok (f x) w) : (xs.mapM g).run P w = .ok (xs.map f) w := by
  rw [Array.mapM_eq_mapM_toList, Sem.run_map, run_mapM_list g f _ h, Result.andThen_ok]
  congr 1
  apply Array.ext'
  simp

theorem build_sound (hT : T.Ok P) (h : Ok base J w0 st μ σ w) {ρ : Operand → AV} {ρc : Operand → Value} (hρ : ∀ x, At base J st μ σ w (ρ x) (ρc x)) {o : Oper} {t : TypeId} {parts : Array (Nat × Operand)} (ho : o.op = .build t parts)
    (hv : vcOp P T (.build t parts) ρ st K) : Fin P (NN base J w0 st μ σ w K) ((execOp ρc o).run P w) := by
  simp only [vcOp, listK_iff, listLK_iff, AV.fc_iff] at hv
  split at hv
  · exact hv.elim
  · rename_i i hi
    obtain ⟨z, hz, hzc⟩ := hT.zeroV hi w
    have hu := (hT t i hi).1
    split at hv
    · rename_i fs hd
      rw [hd] at hu
      split at hv
      · rename_i hfs
        split at hv
        · rename_i cs hfill
          have hfs' : ∀ f ∈ fs.toList, ∃ fi, T f.type = some fi := fun f hf => Option.isSome_iff_exists.1 (List.all_eq_true.1 hfs f hf)
          have hpl : (fs.mapM fun f => Prod.mk f.offset <$> sizeOf f.type : Sem (Array (Nat × Nat))).run P w = .ok (fs.map fun f => (f.offset, ((T f.type).map TI.size).getD 0)) w := by
            refine run_mapM _ _ _ fun f hf => ?_
            obtain ⟨fi, hfi⟩ := hfs' f hf
            simp [hT.size hfi, hfi]
          obtain ⟨us', r1, r2, r3⟩ := fill_sound (base := base) (J := J) (st := st) (μ := μ) (σ := σ) (w := w) hT (fs := fs) (places := fs.map fun f => (f.offset, ((T f.type).map TI.size).getD 0))
            (fun q f fi hf hfi => by simp [hf, hfi]) (parts.toList.map fun p => (p.1, ρ p.2)) (parts.toList.map fun p => (p.1, ρc p.2)) (i.zero.map AV.lit) cs z.cells (by simp)
            (fun j p q hp hq => by
              simp only [List.getElem?_map, Option.map_eq_some_iff] at hp hq
              obtain ⟨y, hy, rfl⟩ := hp
              obtain ⟨y', hy', rfl⟩ := hq
              rw [hy] at hy'
              cases hy'
              exact ⟨rfl, hρ _⟩)
            (by rw [hzc]; simp) (fun j a u ha hu => by
              rw [hzc] at hu
              simp only [List.getElem?_map, Option.map_eq_some_iff] at ha
              obtain ⟨y, hy, rfl⟩ := ha
              simp [hy] at hu
              subst hu
              exact .lit _) hfill
          simp only [Array.getElem?_map] at r1
          have e : (execOp ρc o).run P w = .ok (.value (.agg us')) w := by
            simp [execOp, ho, Instr.build, hz, run_underlying hu, hpl, r1]
          rw [e]
          exact NN.same h hv (.agg _ _ r2 r3)
        · exact hv.elim
      · exact hv.elim
    · exact hv.elim

theorem fillE_sound {sz : Nat} (hsz : 0 < sz) : ∀ (ps : List (Nat × AV)) (qs : List (Nat × Value)) (es es' : List (List AV)) (us : Array Value), ps.length = qs.length → (∀ (j : Nat) p q, ps[j]? = some p → qs[j]? = some q → p.1 = q.1 ∧ At base J st μ σ w p.2 q.2) →
    Row base J st μ σ w sz es us.toList → fillE sz ps es = some es' → es'.length = es.length ∧ ∃ us', Instr.fill (fun i => some (i * sz, sz)) us qs = some us' ∧ Row base J st μ σ w sz es' us'.toList
  | [], [], es, es', us, _, _, h1, hf => by
    simp only [fillE, Option.some.injEq] at hf
    subst hf
    exact ⟨rfl, us, rfl, h1⟩
  | [], _ :: _, _, _, _, h, _, _, _ => by simp at h
  | _ :: _, [], _, _, _, h, _, _, _ => by simp at h
  | (i, v) :: ps, (i', u) :: qs, es, es', us, hl, hr, h1, hf => by
    obtain ⟨hii, hvu⟩ := hr 0 _ _ rfl rfl
    simp only at hii hvu
    subst hii
    unfold fillE at hf
    split at hf
    · rename_i hck
      simp only [Bool.and_eq_true] at hck
      obtain ⟨⟨⟨k1, k2⟩, k3⟩, k4⟩ := hck
      have k1 := of_decide_eq_true k1
      have k2 := of_decide_eq_true k2
      obtain ⟨c1, c2⟩ := hvu.cells k3
      have hlen := h1.len
      rw [Array.length_toList] at hlen
      have hmul : (i + 1) * sz ≤ es.length * sz := Nat.mul_le_mul_right _ k1
      rw [Nat.add_mul] at hmul
      obtain ⟨g1, g2⟩ := zip_fold us u.cells (i * sz) (by omega)
      have hcond : (u.cells.size ≠ sz || decide (i * sz + u.cells.size > us.size)) = false := by
        have e1 : u.cells.size = sz := by omega
        simp [e1]
        omega
      have hrow : Row base J st μ σ w sz (es.set i (v.cells.map AV.strip)) (u.cells.zipIdx.foldl (fun (a : Array Value) (c, j) => a.setIfInBounds (i * sz + j) c) us).toList := by
        refine ⟨by rw [Array.length_toList, g1, List.length_set, hlen], fun k e he => ?_, fun k e j a he ha => ?_⟩
        · by_cases hik : i = k
          · subst hik
            simp only [List.getElem?_set_self k1] at he
            cases he
            exact ⟨by simpa using k2, k4⟩
          · rw [List.getElem?_set_ne hik] at he
            exact h1.el _ _ he
        · rw [Array.getElem?_toList, g2]
          by_cases hik : i = k
          · subst hik
            simp only [List.getElem?_set_self k1] at he
            cases he
            have hj := (List.getElem?_eq_some_iff.1 ha).1
            simp at hj
            simp only [List.getElem?_map, Option.map_eq_some_iff] at ha
            obtain ⟨y, hy, rfl⟩ := ha
            have hu : u.cells[j]? = some (u.cells[j]'(by omega)) := Array.getElem?_eq_getElem (by omega)
            refine ⟨_, ?_, (c2 j y _ hy hu).strip⟩
            rw [if_pos (by omega), show i * sz + j - i * sz = j by omega, hu]
          · rw [List.getElem?_set_ne hik] at he
            obtain ⟨u1, q1, q2⟩ := h1.at' k e j a he ha
            have hj := (List.getElem?_eq_some_iff.1 ha).1
            rw [(h1.el k e he).1] at hj
            refine ⟨u1, ?_, q2⟩
            rw [if_neg, ← Array.getElem?_toList]
            · exact q1
            · rintro ⟨n1, n2⟩
              rw [← c1, k2] at n2
              have h3 : (k * sz + j) / sz = k := (div_mul hj).1
              have h4 : (i * sz + (k * sz + j - i * sz)) / sz = i := (div_mul (by omega)).1
              rw [show i * sz + (k * sz + j - i * sz) = k * sz + j by omega, h3] at h4
              exact hik h4.symm
      obtain ⟨r0, us', r1, r2⟩ := fillE_sound hsz ps qs _ es' _ (by simpa using hl) (fun j p q hp hq => hr (j + 1) p q hp hq) hrow hf
      refine ⟨by rw [r0, List.length_set], us', ?_, r2⟩
      simp only [Instr.fill]
      rw [if_neg (by rw [hcond]; decide)]
      exact r1
    · cases hf

theorem buildSlice_sound (hT : T.Ok P) (h : Ok base J w0 st μ σ w) {ρ : Operand → AV} {ρc : Operand → Value} (hρ : ∀ x, At base J st μ σ w (ρ x) (ρc x)) {o : Oper} {t : TypeId} {len : Nat} {parts : Array (Nat × Operand)} (ho : o.op = .buildSlice t len parts)
    (hv : vcOp P T (.buildSlice t len parts) ρ st K) : Fin P (NN base J w0 st μ σ w K) ((execOp ρc o).run P w) := by
  simp only [vcOp, listK_iff, listLK_iff, AV.fc_iff] at hv
  split at hv
  · rename_i e hd
    have hus := hT.und hd
    split at hv
    · exact hv.elim
    · rename_i i hi
      obtain ⟨z, hz, hzc⟩ := hT.zeroV hi w
      split at hv
      · rename_i hck
        simp only [Bool.and_eq_true] at hck
        obtain ⟨⟨⟨k1, k2⟩, k3⟩, k4⟩ := hck
        have k1 := of_decide_eq_true k1
        have k2 := of_decide_eq_true k2
        have k3 := of_decide_eq_true k3
        split at hv
        · rename_i es hfill
          have hzsz : z.cells.size = i.size := by rw [hzc]; simpa using k3
          have hrow0 : Row base J st μ σ w i.size (List.replicate len (i.zero.map AV.lit)) ((Array.range (len * i.size)).map (z.cells[· % z.cells.size]!)).toList := by
            refine ⟨by simp, fun k e he => ?_, fun k e j a he ha => ?_⟩
            · rw [List.getElem?_replicate] at he
              split at he
              · cases he
                exact ⟨by simpa using k3, k4⟩
              · cases he
            · rw [List.getElem?_replicate] at he
              split at he
              · rename_i hk
                cases he
                have hj := (List.getElem?_eq_some_iff.1 ha).1
                simp at hj
                simp only [List.getElem?_map, Option.map_eq_some_iff] at ha
                obtain ⟨y, hy, rfl⟩ := ha
                refine ⟨y, ?_, .lit _⟩
                have hlt := lt_mul hk (show j < i.size by omega)
                have hmod := (div_mul (k := k) (show j < i.size by omega)).2
                have hjz : j < z.cells.size := by omega
                have hget : z.cells[j]! = y := by
                  rw [getElem!_pos z.cells j hjz]
                  have : z.cells[j]? = some y := by rw [hzc]; simpa using hy
                  rw [Array.getElem?_eq_getElem hjz] at this
                  cases this; rfl
                simp [hlt, hzsz, hmod, hget]
              · cases he
          obtain ⟨r0, us', r1, r2⟩ := fillE_sound (base := base) (J := J) (st := st) (μ := μ) (σ := σ) (w := w) k2 (parts.toList.map fun p => (p.1, ρ p.2)) (parts.toList.map fun p => (p.1, ρc p.2)) _ es _ (by simp)
            (fun j p q hp hq => by
              simp only [List.getElem?_map, Option.map_eq_some_iff] at hp hq
              obtain ⟨y, hy, rfl⟩ := hp
              obtain ⟨y', hy', rfl⟩ := hq
              rw [hy] at hy'
              cases hy'
              exact ⟨rfl, hρ _⟩) hrow0 hfill
          have hel : es.length = len := by rw [r0]; simp
          obtain ⟨ok', ext'⟩ := h.step (below_alloc w (.cells us' e))
          have n1 : ¬ (len * i.size > 2 ^ 24) := by omega
          have hrun : (execOp ρc o).run P w = .ok (.value (.slice (some ⟨w.heap.size, 0, none⟩) len len)) (w.alloc (.cells us' e)) := by
            by_cases hl0 : len = 0
            · subst hl0
              have hu0 : us'.toList = [] := List.eq_nil_of_length_eq_zero (by rw [r2.len, hel]; simp)
              have e0 : ∀ f : Nat → Value, (Array.range 0).map f = #[] := fun f => by simp [Array.range]
              simp only [Nat.zero_mul, e0] at r1
              simp [execOp, ho, Instr.buildSlice, run_underlying hus, hT.size hi, newRow, e0, r1]
            · have hne : ¬ (len * i.size = 0) := by
                rw [Nat.mul_eq_zero]
                omega
              simp only [execOp, ho, Instr.buildSlice, Sem.run_bind, run_underlying hus, Result.andThen_ok, hT.size hi, if_neg n1, if_neg hne, hz, Sem.run_pure]
              simp [r1, newRow]
          rw [hrun]
          refine ⟨_, _, _, _, hv, ok', ext', ?_⟩
          have hmx : es.length ≤ maxLen := by
            have h9 : len * 1 ≤ len * i.size := Nat.mul_le_mul_left _ k2
            unfold maxLen
            omega
          have := (r2.ext ext').sl .tight w.heap.size 0 es.length (Nat.le_refl _) hmx (fun j u hu => ⟨?_, ?_⟩) (fun _ => rfl) (fun i' e' h => by cases h)
          · rw [hel] at this; exact this
          · exact h.im_new (Nat.le_refl _) _
          · rw [Nat.zero_add, cell_block (heap_alloc_new w _), ← Array.getElem?_toList]; exact hu
        · exact hv.elim
      · exact hv.elim
  · exact hv.elim
end
end Go.Proofs.YtfhodppaelfcfaaDoor
