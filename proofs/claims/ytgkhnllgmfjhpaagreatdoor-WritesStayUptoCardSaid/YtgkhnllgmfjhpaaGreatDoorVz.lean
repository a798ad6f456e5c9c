/- The operations over abstract values: struct and slice literals, reslicing, calls; all operations together. No statement of its own. -/
import Derived.Test.YtgkhnllgmfjhpaaGreatDoorVy
import Derived.Test.YtgkhnllgmfjhpaaGreatDoorVx
import Derived.Orders
import Derived.Deep.LoopGhost
set_option linter.unusedSimpArgs false
set_option linter.unusedVariables false
set_option maxRecDepth 100000
namespace Go.Proofs.YtgkhnllgmfjhpaaGreatDoor
open Go.RowKit

section
variable {base : Nat} {J : Nat → Nat → Prop} {w0 : World} {st : St} {μ : Nat → Nat} {σ : Nat → Tkt} {w w' : World} {P : Program} {T : Tab} {K : AV → St → Prop}

theorem bndA_sound {ρ : Operand → AV} {ρc : Operand → Value} (hρ : ∀ x, At base J st μ σ w (ρ x) (ρc x)) {o : Option Operand} {d : Nat} {K1 : Nat → Prop} (h : bndA (o.map ρ) d K1) :
    ∃ k, K1 k ∧ ((o = none ∧ k = d) ∨ ∃ kk q, o = some q ∧ ρc q = .int kk (k : Int)) := by
  cases o with
  | none => exact ⟨d, h, .inl ⟨rfl, rfl⟩⟩
  | some q =>
    simp only [Option.map_some] at h
    unfold bndA at h
    split at h
    · rename_i he; cases he
    · rename_i kk n he
      simp only [Option.some.injEq] at he
      obtain ⟨k, rfl, hk⟩ := h
      have := hρ q
      rw [he] at this
      exact ⟨k, hk, .inr ⟨kk, q, rfl, this.of_lit⟩⟩
    · exact h.elim
theorem bounds_run {ρc : Operand → Value} {lo hi : Option Operand} {l h len cap : Nat} (b : Bool) (hl : (lo = none ∧ l = 0) ∨ ∃ kk q, lo = some q ∧ ρc q = .int kk (l : Int)) (hh : (hi = none ∧ h = len) ∨ ∃ kk q, hi = some q ∧ ρc q = .int kk (h : Int))
    (h1 : l ≤ h) (h2 : h ≤ cap) : (Instr.sliceBounds b len cap (lo.map ρc) (hi.map ρc) none).run P w = .ok (l, h, cap) w := by
  have e1 : (0 : Int) ≤ (h : Int) ∧ (h : Int) ≤ (cap : Int) := by omega
  have e2 : (0 : Int) ≤ (l : Int) ∧ (l : Int) ≤ (h : Int) := by omega
  rcases hl with ⟨rfl, rfl⟩ | ⟨kl, ql, rfl, el⟩ <;> rcases hh with ⟨rfl, rfl⟩ | ⟨kh, qh, rfl, eh⟩ <;>
    simp [Instr.sliceBounds, Instr.sliceBound, asIntOf, *] <;> omega

theorem vcSlice_sound (hT : T.Ok P) (h : Ok base J w0 st μ σ w) {ρ : Operand → AV} {ρc : Operand → Value} (hρ : ∀ x, At base J st μ σ w (ρ x) (ρc x)) {o : Oper} {t : TypeId} {x : Operand} {lo hi : Option Operand} (ho : o.op = .slice t x lo hi none)
    (hv : vcOp P T (.slice t x lo hi none) ρ st K) : Fin P (NN base J w0 st μ σ w K) ((execOp ρc o).run P w) := by
  simp only [vcOp] at hv
  have hx := hρ x
  simp only [execOp, ho, Option.map_none]
  have hat : ∀ v, (P.underlying t = some .string ∨ ∃ e, P.underlying t = some (.slice e)) → (Instr.sliceAt t v (lo.map ρc) (hi.map ρc) none).run P w = (Instr.slice t v (lo.map ρc) (hi.map ρc) none).run P w := by
    intro v hu
    rcases hu with hu | ⟨e, hu⟩ <;> simp [Instr.sliceAt, run_underlying hu]
  unfold vcSlice at hv
  split at hv
  · rename_i hd
    have hus := hT.und hd
    split at hv
    · rename_i s he
      rw [he] at hx
      have hx' := hx.of_lit
      obtain ⟨hh, hk, q1⟩ := bndA_sound hρ hv
      obtain ⟨ll, ⟨c1, c2, hk⟩, q2⟩ := bndA_sound hρ hk
      refine Pu.fin h ⟨.string (s.extract ll hh), _, ?_, hk, .lit _⟩ rfl
      rw [hx', hat _ (.inl hus)]
      simp [Instr.slice, run_underlying hus, bounds_run (P := P) (w := w) false q2 q1 c1 c2]
    · exact hv.elim
  · rename_i e hd
    have hus := hT.und hd
    split at hv
    · exact hv.elim
    · rename_i sz' hsz
      obtain ⟨ie, hie, hs⟩ := Option.map_eq_some_iff.1 hsz
      split at hv
      · rename_i tg sz es he
        rw [he] at hx
        split at hv
        · rename_i hsz'
          have hsz' := of_decide_eq_true hsz'
          subst hsz'
          have fin : ∀ (l hh : Nat) (tg' : Tk), l ≤ hh → hh ≤ es.length → (tg' = .no ∨ (tg' = tg ∧ (∃ i e, tg = .own i e) ∧ hh = es.length)) → K (.sl tg' sz' ((es.drop l).take (hh - l))) st → ((lo = none ∧ l = 0) ∨ ∃ kk q, lo = some q ∧ ρc q = .int kk (l : Int)) → ((hi = none ∧ hh = es.length) ∨ ∃ kk q, hi = some q ∧ ρc q = .int kk (hh : Int)) →
              Fin P (NN base J w0 st μ σ w K) ((do pure (.value (← Instr.sliceAt t (ρc x) (lo.map ρc) (hi.map ρc) none)) : Sem Next).run P w) := by
            intro l hh tg' c1 c2 htg hk q2 q1
            rcases hx.sl_inv with ⟨rfl, rfl, a, cap, hv2, hm⟩ | ⟨g, o2, cap, us, hv2, hs', hn', hm, hc, hr, ht1, ht2⟩
            · simp at c2
              subst c2
              have : l = 0 := by omega
              subst this
              refine Pu.fin h (K := K) ⟨.slice (if cap = 0 then a else a.map (·.add 0)) 0 cap, _, ?_, hk, ?_⟩ rfl
              · rw [hat _ (.inr ⟨_, hus⟩), hv2]
                have := bounds_run (P := P) (w := w) true q2 q1 (Nat.le_refl 0) (Nat.zero_le cap)
                simp only [List.length_nil] at this
                simp [Instr.slice, run_underlying hus, this, hT.size hie, hs]
              · rcases htg with rfl | ⟨rfl, ⟨i, e, h9⟩, _⟩
                · exact .sl0 sz' _ cap hm
                · cases h9
            · have hb := bounds_run (P := P) (w := w) (len := es.length) (cap := cap) true q2 q1 c1 (by omega)
              have hrun : (Instr.sliceAt t (ρc x) (lo.map ρc) (hi.map ρc) none).run P w = .ok (.slice (if cap = l then some ⟨g, o2, none⟩ else some ⟨g, o2 + l * sz', none⟩) (hh - l) (cap - l)) w := by
                rw [hat _ (.inr ⟨_, hus⟩), hv2]
                simp [Instr.slice, run_underlying hus, hb, hT.size hie, hs, Addr.add_lit]
              have hlen : ((es.drop l).take (hh - l)).length = hh - l := by simp; omega
              have hget : ∀ (k : Nat) (e : List AV), ((es.drop l).take (hh - l))[k]? = some e → es[l + k]? = some e := fun k e he => by
                rw [List.getElem?_take] at he
                split at he
                · rwa [List.getElem?_drop] at he
                · cases he
              by_cases hcl : cap = l
              · rw [if_pos hcl] at hrun
                have hz : hh - l = 0 := by omega
                have := Rp.sl (w := w) (I := Im base J st μ σ) (hl := st.heap.length) (μ := μ) (tk := st.tk) (σ := σ) tg' sz' ((es.drop l).take (hh - l)) g o2 (cap - l) (fun _ _ => undef) (fun k e he => hs' _ _ (hget k e he)) (by omega) (by omega)
                  (fun k e j a he => by have := (List.getElem?_eq_some_iff.1 he).1; omega) (fun k e j a he => by have := (List.getElem?_eq_some_iff.1 he).1; omega)
                  (fun ht => by omega) (fun i e ht => ?_)
                · rw [hlen] at this
                  exact Pu.fin h ⟨_, _, hrun, hk, this⟩ rfl
                · rcases htg with rfl | ⟨rfl, _, _⟩
                  · cases ht
                  · obtain ⟨e0, k1, k2, k3⟩ := ht2 i e ht
                    exact ⟨e0, k1, k2, fun _ hne => absurd (show cap - l = _ by omega) hne⟩
              · rw [if_neg hcl] at hrun
                have hadd : ∀ k, o2 + l * sz' + k * sz' = o2 + (l + k) * sz' := fun k => by rw [Nat.add_mul]; omega
                have := Rp.sl (w := w) (I := Im base J st μ σ) (hl := st.heap.length) (μ := μ) (tk := st.tk) (σ := σ) tg' sz' ((es.drop l).take (hh - l)) g (o2 + l * sz') (cap - l) (fun k j => us (l + k) j) (fun k e he => hs' _ _ (hget k e he)) (by omega) (by omega)
                  (fun k e j a he ha => by rw [hadd]; exact hc _ e j a (hget k e he) ha) (fun k e j a he ha => hr _ e j a (hget k e he) ha)
                  (fun ht => by rcases htg with rfl | ⟨rfl, ⟨i, e, h9⟩, _⟩; cases ht; rw [h9] at ht; cases ht) (fun i e ht => ?_)
                · rw [hlen] at this
                  exact Pu.fin h ⟨_, _, hrun, hk, this⟩ rfl
                · rcases htg with rfl | ⟨rfl, _, hhe⟩
                  · cases ht
                  · obtain ⟨e0, k1, k2, k3⟩ := ht2 i e ht
                    refine ⟨e0, k1, k2, fun ee hne => ?_⟩
                    rw [hlen] at hne ⊢
                    obtain ⟨m1, m2, m3⟩ := k3 ee (by omega)
                    refine ⟨m1, ?_, ?_⟩
                    · rw [hadd, ← m2]; congr 2; omega
                    · rw [hadd, ← m3]; congr 2; omega
          split at hv
          · rename_i i v hhi
            obtain ⟨l, ⟨c1, hk⟩, q2⟩ := bndA_sound hρ hv
            refine fin l es.length _ c1 (Nat.le_refl _) (.inr ⟨rfl, ⟨_, _, rfl⟩, rfl⟩) ?_ q2 (.inl ⟨Option.map_eq_none_iff.1 hhi, rfl⟩)
            rw [List.take_of_length_le (by simp)]
            exact hk
          · obtain ⟨hh, hk, q1⟩ := bndA_sound hρ hv
            obtain ⟨ll, ⟨c1, c2, hk⟩, q2⟩ := bndA_sound hρ hk
            exact fin ll hh .no c1 c2 (.inl rfl) hk q2 q1
        · exact hv.elim
      · rename_i he
        rw [he] at hx
        have hx' := hx.of_lit
        obtain ⟨hh, hk, q1⟩ := bndA_sound hρ hv
        obtain ⟨ll, ⟨c1, c2, hk2⟩, q2⟩ := bndA_sound hρ hk
        clear hk
        subst c1
        subst c2
        refine Pu.fin h ⟨.slice none 0 0, _, ?_, hk2, .lit _⟩ rfl
        rw [hx', hat _ (.inr ⟨_, hus⟩)]
        simp [Instr.slice, run_underlying hus, bounds_run (P := P) (w := w) true q2 q1 (Nat.le_refl 0) (Nat.le_refl 0), hT.size hie]
      · rename_i p lw n cap sz he
        rw [he] at hx
        split at hv
        · rename_i hsz'
          have hsz' := of_decide_eq_true hsz'
          subst hsz'
          obtain ⟨hh, hk, q1⟩ := bndA_sound hρ hv
          obtain ⟨l, ⟨c1, c2, hk2⟩, q2⟩ := bndA_sound hρ hk
          generalize hv2 : ρc x = v at hx ⊢
          cases hx with
          | hs _ _ _ _ _ hp hnc hm =>
            have hb := bounds_run (P := P) (w := w) (len := n) (cap := cap) true q2 q1 c1 c2
            have hrun : (Instr.sliceAt t (.slice (some ⟨μ p, lw, none⟩) n cap) (lo.map ρc) (hi.map ρc) none).run P w = .ok (.slice (some ⟨μ p, if cap = l then lw else lw + l * sz', none⟩) (hh - l) (cap - l)) w := by
              rw [hat _ (.inr ⟨_, hus⟩)]
              by_cases hcl : cap = l
              · subst hcl
                simp [Instr.slice, run_underlying hus, hb, hT.size hie, hs, Addr.add_lit]
              · simp [Instr.slice, run_underlying hus, hb, hT.size hie, hs, Addr.add_lit, hcl]
            exact Pu.fin h ⟨_, _, hrun, hk2 _ rfl, .hs p _ _ _ _ hp (by omega) (by omega)⟩ rfl
        · exact hv.elim
      · exact hv.elim
  · rename_i na e hd
    have hus := hT.und hd
    split at hv
    · rename_i sz hsz hml
      have hml := of_decide_eq_true hml
      obtain ⟨ie, hie, hs⟩ := Option.map_eq_some_iff.1 hsz
      split at hv
      · rename_i p lw he
        rw [he] at hx
        obtain ⟨hh, hk, q1⟩ := bndA_sound hρ hv
        obtain ⟨l, ⟨c1, c2, hk2⟩, q2⟩ := bndA_sound hρ hk
        generalize hv2 : ρc x = v at hx ⊢
        cases hx with
        | ptr _ _ hp =>
          have hb := bounds_run (P := P) (w := w) (len := na) (cap := na) false q2 q1 c1 c2
          have hrun : (Instr.sliceAt t (.pointer (some ⟨μ p, lw, none⟩)) (lo.map ρc) (hi.map ρc) none).run P w = .ok (.slice (some ⟨μ p, if na = l then lw else lw + l * sz, none⟩) (hh - l) (na - l)) w := by
            by_cases hcl : na = l
            · subst hcl
              simp [Instr.sliceAt, Instr.sureAddr, run_underlying hus, hb, hT.size hie, hs, Addr.add_lit]
            · simp [Instr.sliceAt, Instr.sureAddr, run_underlying hus, hb, hT.size hie, hs, Addr.add_lit, hcl]
          exact Pu.fin h ⟨_, _, hrun, hk2 _ rfl, .hs p _ _ _ _ hp (by omega) (by omega)⟩ rfl
      · exact hv.elim
    · exact hv.elim
  · exact hv.elim
end

theorem zip_fold (us cs : Array Value) (off : Nat) (hle : off + cs.size ≤ us.size) :
    (cs.zipIdx.foldl (fun (a : Array Value) (c, j) => a.setIfInBounds (off + j) c) us).size = us.size ∧
    ∀ (q : Nat), (cs.zipIdx.foldl (fun (a : Array Value) (c, j) => a.setIfInBounds (off + j) c) us)[q]? = if off ≤ q ∧ q < off + cs.size then cs[q - off]? else us[q]? := by
  have key : ∀ (n : Nat), n ≤ cs.size → ((cs.zipIdx.toList.take n).foldl (fun (a : Array Value) (c, j) => a.setIfInBounds (off + j) c) us).size = us.size ∧
      ∀ (q : Nat), ((cs.zipIdx.toList.take n).foldl (fun (a : Array Value) (c, j) => a.setIfInBounds (off + j) c) us)[q]? = if off ≤ q ∧ q < off + n then cs[q - off]? else us[q]? := by
    intro n
    induction n with
    | zero => intro _; exact ⟨rfl, fun q => by rw [if_neg (by omega)]; rfl⟩
    | succ n ih =>
      intro hn
      obtain ⟨i1, i2⟩ := ih (by omega)
      have hz : cs.zipIdx.toList[n]? = some (cs[n], n) := by simp
      have htk : cs.zipIdx.toList.take (n + 1) = cs.zipIdx.toList.take n ++ [(cs[n], n)] := by
        rw [List.take_add_one, hz]; rfl
      rw [htk, List.foldl_append]
      refine ⟨by simpa using i1, fun q => ?_⟩
      simp only [List.foldl_cons, List.foldl_nil]
      rw [Array.getElem?_setIfInBounds]
      by_cases e : off + n = q
      · subst e
        have hin : off + n < us.size := by omega
        rw [if_pos rfl, if_pos (by rw [i1]; exact hin), if_pos (by omega)]
        simp
      · rw [if_neg e, i2 q]
        by_cases h3 : off ≤ q ∧ q < off + n
        · rw [if_pos h3, if_pos (by omega)]
        · rw [if_neg h3, if_neg (by omega)]
  have hall : cs.zipIdx.toList.take cs.size = cs.zipIdx.toList := List.take_of_length_le (by simp)
  have := key cs.size (Nat.le_refl _)
  rw [hall] at this
  rw [← Array.foldl_toList]
  exact this

section
variable {base : Nat} {J : Nat → Nat → Prop} {w0 : World} {st : St} {μ : Nat → Nat} {σ : Nat → Tkt} {w w' : World} {P : Program} {T : Tab} {K : AV → St → Prop}

theorem run_mapM_list {α β : Type} (g : α → Sem β) (f : α → β) : ∀ (l : List α), (∀ x ∈ l, (g x).run P w = .ok (f x) w) → (l.mapM g).run P w = .ok (l.map f) w
  | [], _ => by simp
  | x :: l, h => by
    have := run_mapM_list g f l (fun y hy => h y (List.mem_cons_of_mem _ hy))
    simp [h x List.mem_cons_self, this]
theorem run_mapM {α β : Type} (g : α → Sem β) (f : α → β) (xs : Array α) (h : ∀ x ∈ xs.toList, (g x).run P w = .ok (f x) w) : (xs.mapM g).run P w = .ok (xs.map f) w := by
  rw [Array.mapM_eq_mapM_toList, Sem.run_map, run_mapM_list g f _ h, Result.andThen_ok]
  congr 1
  apply Array.ext'
  simp

theorem fillR_sound {sz : Nat} : ∀ (ps : List (Nat × AV)) (qs : List (Nat × Value)) (cs cs' : List AV) (us : Array Value), ps.length = qs.length → (∀ (j : Nat) p q, ps[j]? = some p → qs[j]? = some q → p.1 = q.1 ∧ At base J st μ σ w p.2 q.2) →
    cs.length = us.size → (∀ (j : Nat) a u, cs[j]? = some a → us[j]? = some u → At base J st μ σ w a u) → fillR sz ps cs = some cs' →
    ∃ us', Instr.fill (fun i => some (i * sz, sz)) us qs = some us' ∧ cs'.length = us'.size ∧ ∀ (j : Nat) a u, cs'[j]? = some a → us'[j]? = some u → At base J st μ σ w a u
  | [], [], cs, cs', us, _, _, h1, h2, hf => by
    simp only [fillR, Option.some.injEq] at hf
    subst hf
    exact ⟨us, rfl, h1, h2⟩
  | [], _ :: _, _, _, _, h, _, _, _, _ => by simp at h
  | _ :: _, [], _, _, _, h, _, _, _, _ => by simp at h
  | (i, v) :: ps, (i', u) :: qs, cs, cs', us, hl, hr, h1, h2, hf => by
    obtain ⟨hii, hvu⟩ := hr 0 _ _ rfl rfl
    simp only at hii hvu
    subst hii
    unfold fillR at hf
    split at hf
    · rename_i hck
      simp only [Bool.and_eq_true] at hck
      obtain ⟨⟨⟨k1, k2⟩, k3⟩, k4⟩ := hck
      have k1 := of_decide_eq_true k1
      have k2 := of_decide_eq_true k2
      obtain ⟨c1, c2⟩ := hvu.cells k3
      have hcond : (u.cells.size ≠ sz || decide (i * sz + u.cells.size > us.size)) = false := by
        have e1 : u.cells.size = sz := by omega
        simp [e1]
        omega
      obtain ⟨g1, g2⟩ := zip_fold us u.cells (i * sz) (by omega)
      obtain ⟨us', r1, r2, r3⟩ := fillR_sound ps qs (setAll cs (i * sz) v.cells) cs' (u.cells.zipIdx.foldl (fun (cs : Array Value) (c, j) => cs.setIfInBounds (i * sz + j) c) us) (by simpa using hl)
        (fun j p q hp hq => hr (j + 1) p q hp hq) (by rw [setAll_length, g1, h1]) (fun j a b ha hb => by
          rw [g2 j] at hb
          rw [setAll_get _ _ _ _ (by omega)] at ha
          by_cases hj : i * sz ≤ j ∧ j < i * sz + v.cells.length
          · rw [if_pos hj] at ha
            rw [if_pos (by omega)] at hb
            exact c2 _ a b ha hb
          · rw [if_neg hj] at ha
            rw [if_neg (by omega)] at hb
            exact h2 j a b ha hb) hf
      refine ⟨us', ?_, r2, r3⟩
      simp only [Instr.fill]
      rw [if_neg (by rw [hcond]; decide)]
      exact r1
    · cases hf
theorem build_sound (hT : T.Ok P) (h : Ok base J w0 st μ σ w) {ρ : Operand → AV} {ρc : Operand → Value} (hρ : ∀ x, At base J st μ σ w (ρ x) (ρc x)) {o : Oper} {t : TypeId} {parts : Array (Nat × Operand)} (ho : o.op = .build t parts)
    (hv : vcOp P T (.build t parts) ρ st K) : Fin P (NN base J w0 st μ σ w K) ((execOp ρc o).run P w) := by
  simp only [vcOp, listK_iff, listLK_iff, AV.fc_iff] at hv
  split at hv
  · exact hv.elim
  · rename_i i hi
    obtain ⟨z, hz, hzc⟩ := hT.zeroV hi w
    have hu := (hT t i hi).1
    split at hv
    · rename_i fs hd
      rw [hd] at hu
      split at hv
      · rename_i hfs
        split at hv
        · rename_i cs hfill
          have hfs' : ∀ f ∈ fs.toList, ∃ fi, T f.type = some fi := fun f hf => Option.isSome_iff_exists.1 (List.all_eq_true.1 hfs f hf)
          have hpl : (fs.mapM fun f => Functor.map (Prod.mk f.offset) (sizeOf f.type) : Sem (Array (Nat × Nat))).run P w = .ok (fs.map fun f => (f.offset, ((T f.type).map TI.size).getD 0)) w := by
            refine run_mapM _ _ _ fun f hf => ?_
            obtain ⟨fi, hfi⟩ := hfs' f hf
            simp [hT.size hfi, hfi]
          obtain ⟨us', r1, r2, r3⟩ := fill_sound (base := base) (J := J) (st := st) (μ := μ) (σ := σ) (w := w) hT (fs := fs) (places := fs.map fun f => (f.offset, ((T f.type).map TI.size).getD 0))
            (fun q f fi hf hfi => by simp [hf, hfi]) (parts.toList.map fun p => (p.1, ρ p.2)) (parts.toList.map fun p => (p.1, ρc p.2)) (i.zero.map AV.lit) cs z.cells (by simp)
            (fun j p q hp hq => by
              simp only [List.getElem?_map, Option.map_eq_some_iff] at hp hq
              obtain ⟨y, hy, rfl⟩ := hp
              obtain ⟨y', hy', rfl⟩ := hq
              rw [hy] at hy'
              cases hy'
              exact ⟨rfl, hρ _⟩)
            (by rw [hzc]; simp) (fun j a u ha hu => by
              rw [hzc] at hu
              simp only [List.getElem?_map, Option.map_eq_some_iff] at ha
              obtain ⟨y, hy, rfl⟩ := ha
              simp [hy] at hu
              subst hu
              exact .lit _) hfill
          simp only [Array.getElem?_map] at r1
          have e : (execOp ρc o).run P w = .ok (.value (.agg us')) w := by
            simp [execOp, ho, Instr.build, hz, run_underlying hu, hpl, r1]
          rw [e]
          exact NN.same h hv (.agg _ _ r2 r3)
        · exact hv.elim
      · exact hv.elim
    · rename_i n el hd
      rw [hd] at hu
      split at hv
      · rename_i sz hsz
        split at hv
        · rename_i cs hfill
          obtain ⟨ie, hie, hse⟩ := Option.map_eq_some_iff.1 hsz
          obtain ⟨us', r1, r2, r3⟩ := fillR_sound (base := base) (J := J) (st := st) (μ := μ) (σ := σ) (w := w) (parts.toList.map fun p => (p.1, ρ p.2)) (parts.toList.map fun p => (p.1, ρc p.2)) (i.zero.map AV.lit) cs z.cells (by simp)
            (fun j p q hp hq => by
              simp only [List.getElem?_map, Option.map_eq_some_iff] at hp hq
              obtain ⟨y, hy, rfl⟩ := hp
              obtain ⟨y', hy', rfl⟩ := hq
              rw [hy] at hy'
              cases hy'
              exact ⟨rfl, hρ _⟩)
            (by rw [hzc]; simp) (fun j a u ha hu => by
              rw [hzc] at hu
              simp only [List.getElem?_map, Option.map_eq_some_iff] at ha
              obtain ⟨y, hy, rfl⟩ := ha
              simp [hy] at hu
              subst hu
              exact .lit _) hfill
          have e : (execOp ρc o).run P w = .ok (.value (.agg us')) w := by
            simp [execOp, ho, Instr.build, hz, run_underlying hu, hT.size hie, hse, r1]
          rw [e]
          exact NN.same h hv (.agg _ _ r2 r3)
        · exact hv.elim
      · exact hv.elim
    · exact hv.elim

theorem fillE_sound {sz : Nat} (hsz : 0 < sz) : ∀ (ps : List (Nat × AV)) (qs : List (Nat × Value)) (es es' : List (List AV)) (us : Array Value), ps.length = qs.length → (∀ (j : Nat) p q, ps[j]? = some p → qs[j]? = some q → p.1 = q.1 ∧ At base J st μ σ w p.2 q.2) →
    Row base J st μ σ w sz es us.toList → fillE sz ps es = some es' → es'.length = es.length ∧ ∃ us', Instr.fill (fun i => some (i * sz, sz)) us qs = some us' ∧ Row base J st μ σ w sz es' us'.toList
  | [], [], es, es', us, _, _, h1, hf => by
    simp only [fillE, Option.some.injEq] at hf
    subst hf
    exact ⟨rfl, us, rfl, h1⟩
  | [], _ :: _, _, _, _, h, _, _, _ => by simp at h
  | _ :: _, [], _, _, _, h, _, _, _ => by simp at h
  | (i, v) :: ps, (i', u) :: qs, es, es', us, hl, hr, h1, hf => by
    obtain ⟨hii, hvu⟩ := hr 0 _ _ rfl rfl
    simp only at hii hvu
    subst hii
    unfold fillE at hf
    split at hf
    · rename_i hck
      simp only [Bool.and_eq_true] at hck
      obtain ⟨⟨⟨k1, k2⟩, k3⟩, k4⟩ := hck
      have k1 := of_decide_eq_true k1
      have k2 := of_decide_eq_true k2
      obtain ⟨c1, c2⟩ := hvu.cells k3
      have hlen := h1.len
      rw [Array.length_toList] at hlen
      have hmul : (i + 1) * sz ≤ es.length * sz := Nat.mul_le_mul_right _ k1
      rw [Nat.add_mul] at hmul
      obtain ⟨g1, g2⟩ := zip_fold us u.cells (i * sz) (by omega)
      have hcond : (u.cells.size ≠ sz || decide (i * sz + u.cells.size > us.size)) = false := by
        have e1 : u.cells.size = sz := by omega
        simp [e1]
        omega
      have hrow : Row base J st μ σ w sz (es.set i (v.cells.map AV.strip)) (u.cells.zipIdx.foldl (fun (a : Array Value) (c, j) => a.setIfInBounds (i * sz + j) c) us).toList := by
        refine ⟨by rw [Array.length_toList, g1, List.length_set, hlen], fun k e he => ?_, fun k e j a he ha => ?_⟩
        · by_cases hik : i = k
          · subst hik
            simp only [List.getElem?_set_self k1] at he
            cases he
            exact ⟨by simpa using k2, k4⟩
          · rw [List.getElem?_set_ne hik] at he
            exact h1.el _ _ he
        · rw [Array.getElem?_toList, g2]
          by_cases hik : i = k
          · subst hik
            simp only [List.getElem?_set_self k1] at he
            cases he
            have hj := (List.getElem?_eq_some_iff.1 ha).1
            simp at hj
            simp only [List.getElem?_map, Option.map_eq_some_iff] at ha
            obtain ⟨y, hy, rfl⟩ := ha
            have hu : u.cells[j]? = some (u.cells[j]'(by omega)) := Array.getElem?_eq_getElem (by omega)
            refine ⟨_, ?_, (c2 j y _ hy hu).strip⟩
            rw [if_pos (by omega), show i * sz + j - i * sz = j by omega, hu]
          · rw [List.getElem?_set_ne hik] at he
            obtain ⟨u1, q1, q2⟩ := h1.at' k e j a he ha
            have hj := (List.getElem?_eq_some_iff.1 ha).1
            rw [(h1.el k e he).1] at hj
            refine ⟨u1, ?_, q2⟩
            rw [if_neg, ← Array.getElem?_toList]
            · exact q1
            · rintro ⟨n1, n2⟩
              rw [← c1, k2] at n2
              have h3 : (k * sz + j) / sz = k := (div_mul hj).1
              have h4 : (i * sz + (k * sz + j - i * sz)) / sz = i := (div_mul (by omega)).1
              rw [show i * sz + (k * sz + j - i * sz) = k * sz + j by omega, h3] at h4
              exact hik h4.symm
      obtain ⟨r0, us', r1, r2⟩ := fillE_sound hsz ps qs _ es' _ (by simpa using hl) (fun j p q hp hq => hr (j + 1) p q hp hq) hrow hf
      refine ⟨by rw [r0, List.length_set], us', ?_, r2⟩
      simp only [Instr.fill]
      rw [if_neg (by rw [hcond]; decide)]
      exact r1
    · cases hf

theorem buildSlice_sound (hT : T.Ok P) (h : Ok base J w0 st μ σ w) {ρ : Operand → AV} {ρc : Operand → Value} (hρ : ∀ x, At base J st μ σ w (ρ x) (ρc x)) {o : Oper} {t : TypeId} {len : Nat} {parts : Array (Nat × Operand)} (ho : o.op = .buildSlice t len parts)
    (hv : vcOp P T (.buildSlice t len parts) ρ st K) : Fin P (NN base J w0 st μ σ w K) ((execOp ρc o).run P w) := by
  simp only [vcOp, listK_iff, listLK_iff, AV.fc_iff] at hv
  split at hv
  · rename_i e hd
    have hus := hT.und hd
    split at hv
    · exact hv.elim
    · rename_i i hi
      obtain ⟨z, hz, hzc⟩ := hT.zeroV hi w
      split at hv
      · rename_i hck
        simp only [Bool.and_eq_true] at hck
        obtain ⟨⟨⟨k1, k2⟩, k3⟩, k4⟩ := hck
        have k1 := of_decide_eq_true k1
        have k2 := of_decide_eq_true k2
        have k3 := of_decide_eq_true k3
        split at hv
        · rename_i es hfill
          have hzsz : z.cells.size = i.size := by rw [hzc]; simpa using k3
          have hrow0 : Row base J st μ σ w i.size (List.replicate len (i.zero.map AV.lit)) ((Array.range (len * i.size)).map (z.cells[· % z.cells.size]!)).toList := by
            refine ⟨by simp, fun k e he => ?_, fun k e j a he ha => ?_⟩
            · rw [List.getElem?_replicate] at he
              split at he
              · cases he
                exact ⟨by simpa using k3, k4⟩
              · cases he
            · rw [List.getElem?_replicate] at he
              split at he
              · rename_i hk
                cases he
                have hj := (List.getElem?_eq_some_iff.1 ha).1
                simp at hj
                simp only [List.getElem?_map, Option.map_eq_some_iff] at ha
                obtain ⟨y, hy, rfl⟩ := ha
                refine ⟨y, ?_, .lit _⟩
                have hlt := lt_mul hk (show j < i.size by omega)
                have hmod := (div_mul (k := k) (show j < i.size by omega)).2
                have hjz : j < z.cells.size := by omega
                have hget : z.cells[j]! = y := by
                  rw [getElem!_pos z.cells j hjz]
                  have : z.cells[j]? = some y := by rw [hzc]; simpa using hy
                  rw [Array.getElem?_eq_getElem hjz] at this
                  cases this; rfl
                simp [hlt, hzsz, hmod, hget]
              · cases he
          obtain ⟨r0, us', r1, r2⟩ := fillE_sound (base := base) (J := J) (st := st) (μ := μ) (σ := σ) (w := w) k2 (parts.toList.map fun p => (p.1, ρ p.2)) (parts.toList.map fun p => (p.1, ρc p.2)) _ es _ (by simp)
            (fun j p q hp hq => by
              simp only [List.getElem?_map, Option.map_eq_some_iff] at hp hq
              obtain ⟨y, hy, rfl⟩ := hp
              obtain ⟨y', hy', rfl⟩ := hq
              rw [hy] at hy'
              cases hy'
              exact ⟨rfl, hρ _⟩) hrow0 hfill
          have hel : es.length = len := by rw [r0]; simp
          obtain ⟨ok', ext'⟩ := h.step (below_alloc w (.cells us' e))
          have n1 : ¬ (len * i.size > 2 ^ 24) := by omega
          have hrun : (execOp ρc o).run P w = .ok (.value (.slice (some ⟨w.heap.size, 0, none⟩) len len)) (w.alloc (.cells us' e)) := by
            by_cases hl0 : len = 0
            · subst hl0
              have hu0 : us'.toList = [] := List.eq_nil_of_length_eq_zero (by rw [r2.len, hel]; simp)
              have e0 : ∀ f : Nat → Value, (Array.range 0).map f = #[] := fun f => by simp [Array.range]
              simp only [Nat.zero_mul, e0] at r1
              simp [execOp, ho, Instr.buildSlice, run_underlying hus, hT.size hi, newRow, e0, r1]
            · have hne : ¬ (len * i.size = 0) := by
                rw [Nat.mul_eq_zero]
                omega
              simp only [execOp, ho, Instr.buildSlice, Sem.run_bind, run_underlying hus, Result.andThen_ok, hT.size hi, if_neg n1, if_neg hne, hz, Sem.run_pure]
              simp [r1, newRow]
          rw [hrun]
          refine ⟨_, _, _, _, hv, ok', ext', ?_⟩
          have hmx : es.length ≤ maxLen := by
            have h9 : len * 1 ≤ len * i.size := Nat.mul_le_mul_left _ k2
            unfold maxLen
            omega
          have := (r2.ext ext').sl .tight w.heap.size 0 es.length (Nat.le_refl _) hmx (fun j u hu => ⟨?_, ?_⟩) (fun _ => rfl) (fun i' e' h => by cases h)
          · rw [hel] at this; exact this
          · exact h.im_new (Nat.le_refl _) _
          · rw [Nat.zero_add, cell_block (heap_alloc_new w _), ← Array.getElem?_toList]; exact hu
        · exact hv.elim
      · exact hv.elim
  · exact hv.elim
end

section
variable {base : Nat} {J : Nat → Nat → Prop} {w0 : World} {st : St} {μ : Nat → Nat} {σ : Nat → Tkt} {w w' : World} {P : Program} {T : Tab} {K : AV → St → Prop}

theorem Rp.data {I I' : Nat → Nat → Prop} {hl hl' : Nat} {μ' : Nat → Nat} {σ' : Nat → Tkt} {tk tk' : List Nat} {a : AV} {v : Value} (h : Rp w I hl μ tk σ a v) (hi : ∀ g x, I g x → g < w.heap.size → I' g x) : a.flat = true → Rp w I' hl' μ' tk' σ' a v := by
  induction h with
  | top v => intro h; cases h
  | lit v => intro _; exact .lit v
  | sl0 sz a cap hm => intro _; exact .sl0 sz a cap hm
  | sl t sz es g o cap us hs hn hm hc hr ht1 ht2 ih =>
    intro hf
    refine .sl t sz es g o cap us hs hn hm (fun k e j a he ha => ?_) (fun k e j a he ha => ih k e j a he ha (List.all_eq_true.1 (hs k e he).2 a (List.mem_of_getElem? ha))) ht1 (fun i e hte => ?_)
    · obtain ⟨q1, q2⟩ := hc k e j a he ha
      exact ⟨hi _ _ q1 (World.block_lt_of_cell? w ⟨g, o + k * sz + j, none⟩ q2), q2⟩
    · subst hte; cases hf
  | ptr p off hp => intro h; cases h
  | elt es g o us hf hc hr ih => intro h; cases h
  | fn f first captured us vs e1 e2 hr1 hr2 ih1 ih2 => intro h; cases h
  | agg cs us e1 hr ih => intro h; cases h
  | tup cs us e1 hr ih => intro h; cases h
  | hs p lo n cap sz hp hn hm => intro h; cases h
theorem Rp.dat {I I' : Nat → Nat → Prop} {hl hl' : Nat} {μ' : Nat → Nat} {σ' : Nat → Tkt} {tk tk' : List Nat} {a : AV} {v : Value} (h : Rp w I hl μ tk σ a v) (hi : ∀ g x, I g x → g < w.heap.size → I' g x) (ha : a.dat = true) : Rp w I' hl' μ' tk' σ' a v := by
  cases h with
  | agg cs us e1 hr => exact .agg cs us e1 fun j a u h1 h2 => (hr j a u h1 h2).data hi (List.all_eq_true.1 ha a (List.mem_of_getElem? h1))
  | top v => cases ha
  | lit v => exact .lit v
  | sl0 sz a cap hm => exact .sl0 sz a cap hm
  | sl t sz es g o cap us hs hn hm hc hr ht1 ht2 => exact (Rp.sl t sz es g o cap us hs hn hm hc hr ht1 ht2).data hi ha
  | ptr p off hp => cases ha
  | elt es g o us hf hc hr => cases ha
  | fn f first captured us vs e1 e2 hr1 hr2 => cases ha
  | tup cs us e1 hr => cases ha
  | hs p lo n cap sz hp hn hm => cases ha
theorem CellsW.length : ∀ {zs zs' : List AV}, CellsW zs zs' → zs.length = zs'.length
  | [], [], _ => rfl
  | _ :: _, _ :: _, h => by simp [CellsW.length h.2]
  | [], _ :: _, h => h.elim
  | _ :: _, [], h => h.elim
theorem CellsW.get : ∀ {zs zs' : List AV}, CellsW zs zs' → ∀ (j : Nat) (a' : AV), zs'[j]? = some a' → ∃ a, zs[j]? = some a ∧ cellW a a'
  | [], [], _, _, _, h => by simp at h
  | a :: r, b :: r', h, 0, a', h' => by simp at h'; subst h'; exact ⟨a, rfl, h.1⟩
  | a :: r, b :: r', h, j + 1, a', h' => by simpa using CellsW.get h.2 j a' (by simpa using h')
  | [], _ :: _, h, _, _, _ => h.elim
  | _ :: _, [], h, _, _, _ => h.elim
theorem cellW_at {I I' : Nat → Nat → Prop} {hl hl' : Nat} {μ' : Nat → Nat} {σ' : Nat → Tkt} {tk tk' : List Nat} {a a' : AV} {v : Value} (h : Rp w I hl μ tk σ a v) (hi : ∀ g x, I g x → g < w.heap.size → I' g x) (hw : cellW a a') : Rp w I' hl' μ' tk' σ' a' v := by
  rcases hw with ⟨rfl, hf⟩ | ⟨rfl, sz, rfl⟩
  · exact h.strip.data hi hf
  · cases h
    exact .sl0 sz none 0 (Nat.zero_le _)
theorem argW_at {I I' : Nat → Nat → Prop} {hl hl' : Nat} {μ' : Nat → Nat} {σ' : Nat → Tkt} {tk tk' : List Nat} {a a' : AV} {v : Value} (h : Rp w I hl μ tk σ a v) (hi : ∀ g x, I g x → g < w.heap.size → I' g x) (hw : argW a a') : Rp w I' hl' μ' tk' σ' a' v := by
  rcases hw with (⟨rfl, hd⟩ | ⟨cs, cs', rfl, rfl, hc⟩) | ⟨rfl, sz, rfl⟩
  · exact h.strip.dat hi hd
  · cases h with
    | agg _ us e1 hr =>
      refine .agg _ us (hc.length.symm.trans e1) fun j a u ha hu => ?_
      obtain ⟨b, hb, hbw⟩ := hc.get j a ha
      exact cellW_at (hr j b u hb hu) hi hbw
  · cases h
    exact .sl0 sz none 0 (Nat.zero_le _)
theorem ArgsW.length : ∀ {zs zs' : List AV}, ArgsW zs zs' → zs.length = zs'.length
  | [], [], _ => rfl
  | _ :: _, _ :: _, h => by simp [ArgsW.length h.2]
  | [], _ :: _, h => h.elim
  | _ :: _, [], h => h.elim
theorem ArgsW.get : ∀ {zs zs' : List AV}, ArgsW zs zs' → ∀ (j : Nat) (a' : AV), zs'[j]? = some a' → ∃ a, zs[j]? = some a ∧ argW a a'
  | [], [], _, _, _, h => by simp at h
  | a :: r, b :: r', h, 0, a', h' => by simp at h'; subst h'; exact ⟨a, rfl, h.1⟩
  | a :: r, b :: r', h, j + 1, a', h' => by simpa using ArgsW.get h.2 j a' (by simpa using h')
  | [], _ :: _, h, _, _, _ => h.elim
  | _ :: _, [], h, _, _, _ => h.elim
theorem AV.dat_strip {a : AV} (h : a.datA = true) : a.strip.dat = true := by
  cases a with
  | sl t sz es => rfl
  | _ => exact h
theorem ArgsW.strip : ∀ (zs : List AV), zs.all AV.datA = true → ArgsW zs (zs.map AV.strip)
  | [], _ => trivial
  | a :: r, h => by
    rw [List.all_cons, Bool.and_eq_true] at h
    exact ⟨.inl (.inl ⟨rfl, AV.dat_strip h.1⟩), ArgsW.strip r h.2⟩

/-- a pure function's result, taken over -/
theorem Rp.shift {I I' : Nat → Nat → Prop} {hl hl' : Nat} {μ' : Nat → Nat} {σ' : Nat → Tkt} {tk ns : List Nat} {a : AV} {v : Value} (h : Rp w I hl μ' ns σ' a v) (hi : ∀ g x, I g x → g < w.heap.size → I' g x) (ha : a.datA = true) :
    Rp w I' hl' μ (tk ++ ns) (fun t => if t < tk.length then σ t else σ' (t - tk.length)) (a.shift tk.length) v := by
  cases h with
  | agg cs us e1 hr => exact (Rp.agg cs us e1 hr).dat hi ha
  | top v => cases ha
  | lit v => exact .lit v
  | sl0 sz a cap hm => exact .sl0 sz a cap hm
  | sl t sz es g o cap us hs hn hm hc hr ht1 ht2 =>
    cases t with
    | no => exact (Rp.sl .no sz es g o cap us hs hn hm hc hr ht1 ht2).data hi rfl
    | tight => exact (Rp.sl .tight sz es g o cap us hs hn hm hc hr ht1 ht2).data hi rfl
    | own t e =>
      refine .sl (.own (tk.length + t) e) sz es g o cap us hs hn hm (fun k e j a he ha => ?_) (fun k e j a he ha => (hr k e j a he ha).data hi (List.all_eq_true.1 (hs k e he).2 a (List.mem_of_getElem? ha))) (fun h => by cases h) (fun i e' hte => ?_)
      · obtain ⟨q1, q2⟩ := hc k e j a he ha
        exact ⟨hi _ _ q1 (World.block_lt_of_cell? w ⟨g, o + k * sz + j, none⟩ q2), q2⟩
      · cases hte
        obtain ⟨e0, k1, k2, k3⟩ := ht2 t e rfl
        refine ⟨e0, ?_, k2, ?_⟩
        · rw [List.getElem?_append_right (by omega), show tk.length + t - tk.length = t by omega]; exact k1
        · simp only [show ¬ (tk.length + t < tk.length) by omega, if_false, show tk.length + t - tk.length = t by omega]
          exact k3
  | ptr p off hp => cases ha
  | elt es g o us hf hc hr => cases ha
  | fn f first captured us vs e1 e2 hr1 hr2 => cases ha
  | tup cs us e1 hr => cases ha
  | hs p lo n cap sz hp hn hm => cases ha

theorem call_run {ρc : Operand → Value} {o : Oper} {c : Call} {f : Operand} {k : FuncId} {us vs : Array Value} (ho : o.op = .call c) (hc : c.callee = .value f) (hf : ρc f = .func (.func k) us vs) (hcall : ∀ zs w, (callFunc k zs).run P w = .ok (.enter k zs) w) :
    (execOp ρc o).run P w = .ok (.enter k (us ++ c.args.map ρc ++ vs)) w := by
  simp [execOp, ho, resolve, hc, hf, Deferred.ofValue, invoke, hcall]

theorem ov_m4 {m : Array Value → Type} (h1 h2) (a b : Option Addr) (la ca lb cb : Nat) :
  Extern.SlicesOverlaps.overlaps.match_4 m #[.slice a la ca, .slice b lb cb] h1 h2 = h1 a la ca b lb cb := rfl
theorem run_overlaps_own (w : World) (tS tR e : TypeId) (ht : P.underlying tS = some (.slice e)) (size : Nat) (hz : ∀ w, (Go.sizeOf e).run P w = .ok size w)
    (a b : Addr) (la ca lb cb : Nat) (hne : a.block ≠ b.block) (x : Nat) (u : Value) (hc : w.cell? ⟨a.block, x, none⟩ = some u) (us : Array Value) (T0 : TypeId) (hb : w.heap[b.block]? = some (.cells us T0 (0, 0))) (h0 : us.size ≠ 0) :
    (Extern.SlicesOverlaps.overlaps #[tS, tS] #[tR] #[.slice (some a) la ca, .slice (some b) lb cb]).run P w = .ok (.bool false) w := by
  have hnb : (a.block != b.block) = true := by simpa using hne
  have hnb' : (a.block == b.block) = false := by simpa using hne
  have hsb : w.shape? b.block = some (T0, us.size) := by simp [World.shape?, hb]
  have hfb : ∀ off, w.frozen? ⟨b.block, off, none⟩ = false := fun off => by simp [World.frozen?, hb]
  have hfb' : w.frozen? b = false := by simp [World.frozen?, hb]
  obtain ⟨tA, kA, hsa⟩ : ∃ tA kA, w.shape? a.block = some (tA, kA + 1) := by
    unfold World.cell? at hc
    unfold World.shape?
    split at hc
    · rename_i c el fz hh
      rw [hh]
      simp only [Option.isSome_none, Bool.false_eq_true, if_false] at hc
      have := (Array.getElem?_eq_some_iff.1 hc).1
      exact ⟨el, c.size - 1, by simp only [Option.some.injEq, Prod.mk.injEq, true_and]; omega⟩
    · cases hc
  obtain ⟨kB, hkB⟩ : ∃ k, us.size = k + 1 := ⟨us.size - 1, by omega⟩
  rw [hkB] at hsb
  delta Extern.SlicesOverlaps.overlaps
  rw [ov_m4]
  by_cases h1 : la = 0 ∨ lb = 0 ∨ size = 0
  · simp [run_underlying ht, hz, h1]
  · cases hfa : w.frozen? a <;> cases hfe : w.frozen? ⟨a.block, kA + 1, none⟩ <;> simp [run_underlying ht, hz, h1, hnb, hnb', frozen, noView, viewAt, mayBeOne, stringish, shape, Sem.run, hsa, hsb, hfa, hfe, hfb, hfb']

theorem vcCopy_sound (hT : T.Ok P) (h : Ok base J w0 st μ σ w) {d x : AV} {dv xv : Value} {ty e : TypeId} {i : TI} (hty : P.underlying ty = some (.slice e)) (hi : T e = some i)
    (hd : At base J st μ σ w d dv) (hx : At base J st μ σ w x xv) (hv : vcCopy i d x st K) (tt : TypeId) (tys : Array TypeId) (ht : tys[0]? = some ty) :
    ∃ v w', (Builtin.copy_ tys tt #[dv, xv]).run P w = .ok v w' ∧ NN base J w0 st μ σ w K v w' := by
  obtain ⟨_, inf, z, hinf, hz, hzc, hsz, hby, hzl⟩ := hT e i hi
  unfold vcCopy at hv
  split at hv
  · rename_i p lo n cap sz
    split at hv
    · rename_i hck
      have hck := of_decide_eq_true hck
      subst hck
      cases hd with
      | hs _ _ _ _ _ hp hnc hm =>
        have key : ∀ (ys : List (List AV)) (news : List Value) (L : Nat), Row base J st μ σ w i.size ys news → (Builtin.lenOf xv).run P w = .ok L w → min L n = ys.length → (Builtin.firstCells i.size ys.length xv).run P w = .ok news.toArray w →
            (∃ cs, st.heap[p]? = some cs ∧ lo + ys.length * i.size ≤ cs.length ∧ K (.i ys.length) ⟨st.heap.set p (setAll cs lo ys.flatten), st.tk⟩) →
            ∃ v w', (Builtin.copy_ tys tt #[.slice (some ⟨μ p, lo, none⟩) n cap, xv]).run P w = .ok v w' ∧ NN base J w0 st μ σ w K v w' := by
          rintro ys news L hrow hlen hmin hfc ⟨cs, hcs, hle, hk⟩
          obtain ⟨_, us, TT, hb, hlen2, hr⟩ := h.hp p cs hcs
          have hyl : ys.flatten.length = ys.length * i.size := flat_len fun k e he => (hrow.el k e he).1
          obtain ⟨ok', ext'⟩ := h.store (off := lo) hcs (vs := ys.flatten) (us := news) (by rw [hyl, hrow.len]) (by rw [hyl]; exact hle) (fun j a u ha hu => by
            have hj := (List.getElem?_eq_some_iff.1 ha).1
            rw [hyl] at hj
            obtain ⟨h1, h2, h3⟩ := split_mul hj
            have he : ys[j / i.size]? = some ys[j / i.size] := List.getElem?_eq_getElem h1
            obtain ⟨l1, l2⟩ := hrow.el _ _ he
            have hae : ys[j / i.size][j % i.size]? = some (ys[j / i.size][j % i.size]'(by omega)) := List.getElem?_eq_getElem (by omega)
            have hfg := flat_get (fun k e he => (hrow.el k e he).1) _ (j % i.size) _ he h2
            rw [h3, ha, hae] at hfg
            cases hfg
            obtain ⟨u', k1, k2⟩ := hrow.at' _ _ _ _ he hae
            rw [h3, hu] at k1
            cases k1
            exact ⟨AV.cell_of_flat (List.all_eq_true.1 l2 _ (List.mem_of_getElem? hae)), rfl, k2⟩)
          have hst := run_storeCells_cells (P := P) (μ p) lo news 0 w
            (fun j hj => by rw [Nat.add_zero, cell_block hb, Array.getElem?_eq_getElem (by rw [← hlen2]; rw [hrow.len] at hj; omega)]; rfl)
            (fun j hj => by simp [World.frozen?, hb])
            hrow.one
          rw [Nat.add_zero] at hst
          refine ⟨goInt ys.length, _, ?_, .i ys.length, _, _, _, hk, ok', ext', .lit _⟩
          have hmin' : Nat.min L n = ys.length := hmin
          simp [Builtin.copy_, ht, run_underlying hty, hlen, hmin', sizeOf, typeInfo, hinf, hsz, hfc, hst]
        unfold cpSrc at hv
        split at hv
        · rename_i p2 lo2 m cap2 sz2
          split at hv
          · rename_i hck
            have hck := of_decide_eq_true hck
            subst hck
            obtain ⟨cs, es, hcs, hseen, hv⟩ := hv
            have hml := hseen.len
            have hseen' : Seen cs lo2 es.length i.size es := by rw [hml]; exact hseen
            cases hx with
            | hs _ _ _ _ _ hp2 hnc2 hm2 =>
              obtain ⟨us, hrow, hcell⟩ := hseen'.row h hcs
              refine key es us m hrow rfl (by omega) (run_firstCells_some w _ es.length ⟨μ p2, lo2, none⟩ m cap2 us hrow.len (fun j v hj => by rw [Addr.add_lit]; exact hcell j v hj)) hv
          · exact hv.elim
        · rename_i tg sz2 es
          split at hv
          · rename_i hck
            have hck := of_decide_eq_true hck
            subst hck
            rcases hx.sl_inv with ⟨_, rfl, a, cap2, rfl, hm2⟩ | ⟨g, o2, cap2, us, rfl, hs', hn', hm2, hc, hr, ht1, ht2⟩
            · rw [List.take_nil] at hv
              refine key [] [] 0 (Row.nil _) rfl (by simp) ?_ hv
              cases a with
              | none => simp [run_firstCells_none]
              | some a => exact run_firstCells_some (P := P) w _ 0 a 0 cap2 [] (by simp) (fun j v h => by simp at h)
            · have sub : ∀ (k : Nat) (e : List AV), (es.take n)[k]? = some e → es[k]? = some e := fun k e he => by
                rw [List.getElem?_take] at he
                split at he
                · exact he
                · cases he
              obtain ⟨hrow, hcell⟩ := Rp.row (es := es.take n) (fun k e he => hs' k e (sub k e he)) (fun k e j a he ha => hc k e j a (sub k e he) ha) (fun k e j a he ha => hr k e j a (sub k e he) ha)
              refine key (es.take n) _ es.length hrow rfl (by rw [List.length_take]; omega) ?_ hv
              exact run_firstCells_some w _ _ ⟨g, o2, none⟩ es.length cap2 _ (flatL_len _ _ _) (fun j v hj => by rw [Addr.add_lit]; exact (hcell j v hj).2)
          · exact hv.elim
        · exact hv.elim
    · exact hv.elim
  · exact hv.elim

theorem vcCall_sound (h : Ok base J w0 st μ σ w) {f : FuncId} {args : List AV} {vs : Array Value} (hl : args.length = vs.size) (ha : ∀ (j : Nat) a v, args[j]? = some a → vs[j]? = some v → At base J st μ σ w a v) (hv : VCall P f args st K) :
    ((∀ zs w, (callFunc f zs).run P w = .ok (.enter f zs) w) ∧ Calls P f vs w fun e w'' => ∃ v, e = .returned v ∧ NN base J w0 st μ σ w K v w'') ∨
      ∃ v w', (callFunc f vs).run P w = .ok (.value v) w' ∧ NN base J w0 st μ σ w K v w' := by
  have hargs : ∀ args', ArgsW args args' → args'.length = vs.size ∧ ∀ (j : Nat) a v, args'[j]? = some a → vs[j]? = some v → At w.heap.size (Im base J st μ σ) ⟨[], []⟩ (fun _ => 0) (fun _ => ⟨0, 0, 0⟩) w a v := by
    intro args' hw
    refine ⟨hw.length.symm.trans hl, fun j a v hj hv' => ?_⟩
    obtain ⟨b, hb, hbw⟩ := hw.get j a hj
    exact argW_at (ha j b v hb hv') (fun g x hi _ => ⟨fun _ => hi, fun p hp => by simp at hp, fun t e ht => by simp at ht⟩) hbw
  have pure0 : ∀ args' r, ArgsW args args' → APure P f args' r [] → K r st → (∀ zs w, (callFunc f zs).run P w = .ok (.enter f zs) w) ∧ Calls P f vs w fun e w'' => ∃ v, e = .returned v ∧ NN base J w0 st μ σ w K v w'' := by
    intro args' r hw ⟨hres, hcall, hp⟩ hk
    obtain ⟨hl', ha'⟩ := hargs args' hw
    refine ⟨hcall, (hp (Im base J st μ σ) w vs h.laid' hl' ha').mono ?_⟩
    rintro e w' ⟨v, σ', rfl, hok, hat⟩
    obtain ⟨ok', ext'⟩ := h.step hok.below
    refine ⟨v, rfl, r, st, μ, σ, hk, ok', ext', ?_⟩
    have hi : ∀ g x, Im w.heap.size (Im base J st μ σ) ⟨[], []⟩ (fun _ => 0) σ' g x → g < w'.heap.size → Im base J st μ σ g x := fun g x hi _ => by
      by_cases hg : g < w.heap.size
      · exact hi.1 hg
      · exact h.im_new (by omega) x
    have one : ∀ {a : AV} {v : Value}, Rp w' (Im w.heap.size (Im base J st μ σ) ⟨[], []⟩ (fun _ => 0) σ') 0 (fun _ => 0) [] σ' a v → a.datA = true → At base J st μ σ w' a v := fun {a v} hr hd => by
      cases a with
      | sl t sz es =>
        cases t with
        | own t e =>
          rcases hr.sl_inv with ⟨h1, _⟩ | ⟨_, _, _, _, _, _, _, _, _, _, _, h2⟩
          · cases h1
          · obtain ⟨e0, k1, _⟩ := h2 t e rfl
            simp at k1
        | no => exact hr.dat hi rfl
        | tight => exact hr.dat hi rfl
      | _ => exact hr.dat hi hd
    cases r with
    | tup cs =>
      cases hat with
      | tup cs us e1 hr => exact .tup cs us e1 fun j a u h1 h2 => one (hr j a u h1 h2) (List.all_eq_true.1 hres a (List.mem_of_getElem? h1))
    | _ => exact one hat hres
  rcases hv with ⟨hall, hpu, hk⟩ | ⟨hall, hw, hpu, hk⟩ | ⟨hall, hw, hpu, hk⟩ | ⟨hcall, hp⟩ | ⟨hov, hag, hp, hk⟩
  rotate_right
  · rename_i tg sz p lo n cap sz' e c r cs es
    obtain ⟨tS, tR, el, size, q1, q2, q3⟩ := hov
    subst hag
    obtain ⟨v0, v1, rfl⟩ : ∃ v0 v1, vs = #[v0, v1] := by
      obtain ⟨l⟩ := vs
      match l, hl with
      | [v0, v1], _ => exact ⟨v0, v1, rfl⟩
    have a0 := ha 0 _ v0 rfl rfl
    have a1 := ha 1 _ v1 rfl rfl
    rcases a0.sl_inv with ⟨_, h1, _⟩ | ⟨g, o2, cap2, us, rfl, hs', hn', hm, hc, hr, ht1, ht2⟩
    · cases h1
    cases a1 with
    | hs _ _ _ _ _ hp1 hnc hm1 =>
      obtain ⟨_, us1, TT, hb, hlen, hr1⟩ := h.hp p _ hp
      obtain ⟨hi, hcell⟩ := hc 0 _ 0 _ rfl rfl
      have hgne : g ≠ μ p := fun e => hi.2.1 p hp1 e.symm
      have hsz1 : us1.size ≠ 0 := by rw [← hlen]; simp
      refine .inr ⟨.bool false, w, q3 _ _ _ _ (run_overlaps_own w tS tR el q1 size q2 ⟨g, o2, none⟩ ⟨μ p, lo, none⟩ _ cap2 _ cap hgne (o2 + 0 * sz + 0) (us 0 0) hcell us1 TT hb hsz1), .b false, st, μ, σ, hk, h, .refl, .lit _⟩
  · exact .inl (pure0 _ _ (ArgsW.strip _ hall) hpu hk)
  · exact .inl (pure0 _ _ hw hpu hk)
  · rename_i args' r ns
    obtain ⟨hres, hcall, hp⟩ := hpu
    obtain ⟨hl', ha'⟩ := hargs args' hw
    refine .inl ⟨hcall, (hp (Im base J st μ σ) w vs h.laid' hl' ha').mono ?_⟩
    rintro e w' ⟨v, σ', rfl, hok, hat⟩
    have hb := hok.below
    obtain ⟨ok1, ext1⟩ := h.step hb
    have hcase : ∀ t e, (st.tk ++ ns)[t]? = some e → (t < st.tk.length ∧ st.tk[t]? = some e) ∨ (¬ t < st.tk.length ∧ ns[t - st.tk.length]? = some e) := fun t e ht => by
      by_cases hlt : t < st.tk.length
      · rw [List.getElem?_append_left hlt] at ht; exact .inl ⟨hlt, ht⟩
      · rw [List.getElem?_append_right (by omega)] at ht; exact .inr ⟨hlt, ht⟩
    have hx : Ext base J st μ σ w ⟨st.heap, st.tk ++ ns⟩ μ (fun t => if t < st.tk.length then σ t else σ' (t - st.tk.length)) w' := by
      refine ⟨Nat.le_refl _, fun _ _ => rfl, fun t e he => ⟨e, ?_, Nat.le_refl _, fun _ => ?_⟩, fun g x hi hg => ⟨⟨hi.1, hi.2.1, fun t e ht hg' => ?_⟩, hb.cell (p := ⟨g, x, none⟩) hg⟩, hb.size⟩
      · rw [List.getElem?_append_left (List.getElem?_eq_some_iff.1 he).1]; exact he
      · simp only [(List.getElem?_eq_some_iff.1 he).1, if_true]
      · rcases hcase t e ht with ⟨c1, c2⟩ | ⟨c1, c2⟩
        · simp only [c1, if_true] at hg' ⊢
          exact hi.2.2 t e c2 hg'
        · simp only [c1, if_false] at hg'
          have := (hok.tkt _ e c2).1
          omega
    have hok2 : Ok base J w0 ⟨st.heap, st.tk ++ ns⟩ μ (fun t => if t < st.tk.length then σ t else σ' (t - st.tk.length)) w' := by
      refine ⟨h.bs, ok1.below, fun p cs hc => ?_, h.inj, fun t e ht => ?_⟩
      · obtain ⟨q1, us', T', hbk, hl', hr⟩ := h.hp p cs hc
        refine ⟨q1, us', T', (hb.block _ (Array.getElem?_eq_some_iff.1 hbk).1).trans hbk, hl', fun j a u ha' hu => ?_⟩
        obtain ⟨r1, r2, r3⟩ := hr j a u ha' hu
        exact ⟨r1, r2, hx.at r3⟩
      · rcases hcase t e ht with ⟨c1, c2⟩ | ⟨c1, c2⟩
        · obtain ⟨q1, ⟨us', T', hbk, q2, q3⟩, q4, q5⟩ := h.tkt t e c2
          simp only [c1, if_true]
          refine ⟨q1, ⟨us', T', (hb.block _ (Array.getElem?_eq_some_iff.1 hbk).1).trans hbk, q2, q3⟩, q4, fun t' e' ht' hg => ?_⟩
          rcases hcase t' e' ht' with ⟨d1, d2⟩ | ⟨d1, d2⟩
          · simp only [d1, if_true] at hg; exact q5 t' e' d2 hg
          · simp only [d1, if_false] at hg
            have := (hok.tkt _ e' d2).1
            have := (h.tk_lt c2).2
            omega
        · obtain ⟨q1, ⟨us', T', hbk, q2, q3⟩, q4, q5⟩ := hok.tkt _ e c2
          simp only [c1, if_false]
          have hbase := h.base_le
          refine ⟨by omega, ⟨us', T', hbk, q2, q3⟩, fun p hp => ?_, fun t' e' ht' hg => ?_⟩
          · have := (h.mu_lt hp).2
            omega
          · rcases hcase t' e' ht' with ⟨d1, d2⟩ | ⟨d1, d2⟩
            · simp only [d1, if_true] at hg
              have := (h.tk_lt d2).2
              omega
            · simp only [d1, if_false] at hg
              have := q5 _ e' d2 hg
              omega
    refine ⟨v, rfl, r.shiftR st.tk.length, ⟨st.heap, st.tk ++ ns⟩, μ, _, hk, hok2, hx, ?_⟩
    have hi : ∀ g x, Im w.heap.size (Im base J st μ σ) ⟨[], ns⟩ (fun _ => 0) σ' g x → g < w'.heap.size → Im base J ⟨st.heap, st.tk ++ ns⟩ μ (fun t => if t < st.tk.length then σ t else σ' (t - st.tk.length)) g x := fun g x hi _ => by
      by_cases hg : g < w.heap.size
      · exact (hx.im g x (hi.1 hg) hg).1
      · refine ⟨fun hb' => by have := h.base_le; omega, fun p hp => by have := (h.mu_lt hp).2; omega, fun t e ht hg' => ?_⟩
        rcases hcase t e ht with ⟨c1, c2⟩ | ⟨c1, c2⟩
        · simp only [c1, if_true] at hg'
          have := (h.tk_lt c2).2
          omega
        · simp only [c1, if_false] at hg' ⊢
          exact hi.2.2 _ e c2 hg'
    cases r with
    | tup cs =>
      cases hat with
      | tup cs us e1 hr =>
        refine .tup _ us (by simpa using e1) fun j a u h1 h2 => ?_
        simp only [List.getElem?_map, Option.map_eq_some_iff] at h1
        obtain ⟨b, hb1, rfl⟩ := h1
        exact (hr j b u hb1 h2).shift hi (List.all_eq_true.1 hres b (List.mem_of_getElem? hb1))
    | _ => exact hat.shift hi hres
  · refine .inl ⟨hcall, (hp base J w0 μ σ w vs h hl ha).mono ?_⟩
    rintro e w' ⟨v, r, st', μ', σ', rfl, h1, h2, h3, h4⟩
    exact ⟨v, rfl, r, st', μ', σ', h1, h2, h3, h4⟩

theorem args_at {I : Nat → Nat → Prop} {hl : Nat} {tk : List Nat} {ρ : Operand → AV} {ρc : Operand → Value} (hρ : ∀ x, Rp w I hl μ tk σ (ρ x) (ρc x)) {zs bs : List AV} {us vs : Array Value} (args : Array Operand)
    (h1 : zs.length = us.size) (h2 : bs.length = vs.size) (r1 : ∀ (j : Nat) a u, zs[j]? = some a → us[j]? = some u → Rp w I hl μ tk σ a u) (r2 : ∀ (j : Nat) a u, bs[j]? = some a → vs[j]? = some u → Rp w I hl μ tk σ a u) :
    (zs ++ args.toList.map ρ ++ bs).length = (us ++ args.map ρc ++ vs).size ∧ ∀ (j : Nat) a v, (zs ++ args.toList.map ρ ++ bs)[j]? = some a → (us ++ args.map ρc ++ vs)[j]? = some v → Rp w I hl μ tk σ a v := by
  refine ⟨by simp [h1, h2], fun j a v ha hv => ?_⟩
  have hmid : (zs ++ args.toList.map ρ).length = (us ++ args.map ρc).size := by simp [h1]
  rw [List.getElem?_append] at ha
  rw [Array.getElem?_append] at hv
  by_cases hj : j < (zs ++ args.toList.map ρ).length
  · rw [if_pos hj] at ha
    rw [if_pos (by omega)] at hv
    rw [List.getElem?_append] at ha
    rw [Array.getElem?_append] at hv
    by_cases hj2 : j < zs.length
    · rw [if_pos hj2] at ha
      rw [if_pos (by omega)] at hv
      exact r1 j a v ha hv
    · rw [if_neg hj2] at ha
      rw [if_neg (by omega), ← h1] at hv
      simp only [List.getElem?_map, Option.map_eq_some_iff] at ha
      obtain ⟨x, hx, rfl⟩ := ha
      rw [Array.getElem?_toList] at hx
      simp [hx] at hv
      subst hv
      exact hρ x
  · rw [if_neg hj] at ha
    rw [if_neg (by omega), ← hmid] at hv
    exact r2 _ a v ha hv
theorem ofV_at {I : Nat → Nat → Prop} {hl : Nat} {tk : List Nat} (us : Array Value) : (us.toList.map AV.ofV).length = us.size ∧ ∀ (j : Nat) a u, (us.toList.map AV.ofV)[j]? = some a → us[j]? = some u → Rp w I hl μ tk σ a u := by
  refine ⟨by simp, fun j a u ha hu => ?_⟩
  simp only [List.getElem?_map, Option.map_eq_some_iff] at ha
  obtain ⟨x, hx, rfl⟩ := ha
  rw [Array.getElem?_toList, hu] at hx
  cases hx
  exact .ofV _

theorem call_sound (hT : T.Ok P) (h : Ok base J w0 st μ σ w) {ρ : Operand → AV} {ρc : Operand → Value} (hρ : ∀ x, At base J st μ σ w (ρ x) (ρc x)) {o : Oper} {c : Call} (ho : o.op = .call c)
    (hv : vcOp P T (.call c) ρ st K) : Fin P (NN base J w0 st μ σ w K) ((execOp ρc o).run P w) := by
  simp only [vcOp] at hv
  split at hv
  · rename_i hcal
    split at hv
    · rename_i x hargs
      have hargs' : c.args = #[x] := Array.ext' hargs
      split at hv
      · rename_i hd
        obtain ⟨i, hi, hdd⟩ := Option.map_eq_some_iff.1 hd
        obtain ⟨t, ht, hi'⟩ := Option.bind_eq_some_iff.1 hi
        have hu : P.underlying t = some .string := by rw [← hdd]; exact (hT t i hi').1
        obtain ⟨v, r, q1, q2, q3⟩ := vcLenS_sound (hρ x) (ty := o.type) hu hv
        have hlen : (Builtin.len_ c.argTypes o.type #[ρc x]).run P w = .ok v w := by
          simp only [Builtin.len_, ht] at q1 ⊢
          exact q1
        have e : (execOp ρc o).run P w = .ok (.value v) w := by
          simp [execOp, ho, resolve, hcal, hargs', invoke, builtin, hlen]
        rw [e]
        exact NN.same h q2 q3
      · rename_i e' hd
        obtain ⟨i, hi, hdd⟩ := Option.map_eq_some_iff.1 hd
        obtain ⟨t, ht, hi'⟩ := Option.bind_eq_some_iff.1 hi
        have hu : P.underlying t = some (.slice e') := by rw [← hdd]; exact (hT t i hi').1
        obtain ⟨v, r, q1, q2, q3⟩ := vcLenL_sound (hρ x) (ty := o.type) hu hv
        have hlen : (Builtin.len_ c.argTypes o.type #[ρc x]).run P w = .ok v w := by
          simp only [Builtin.len_, ht] at q1 ⊢
          exact q1
        have e : (execOp ρc o).run P w = .ok (.value v) w := by
          simp [execOp, ho, resolve, hcal, hargs', invoke, builtin, hlen]
        rw [e]
        exact NN.same h q2 q3
      · exact hv.elim
    · exact hv.elim
  · rename_i hcal
    split at hv
    · rename_i x rs hargs
      obtain ⟨v, r, q1, q2, q3⟩ := minA_sound (mx := false) (x := ρ x) (a := ρc x) (rs.map ρ) (rs.map ρc) _ _ (hρ x) (by simp) (fun j y b h1 h2 => by
        simp only [List.getElem?_map, Option.map_eq_some_iff] at h1 h2
        obtain ⟨p, hp, rfl⟩ := h1
        obtain ⟨p', hp', rfl⟩ := h2
        rw [hp] at hp'
        cases hp'
        exact hρ _) hv
      have hm : (Builtin.min_ c.argTypes o.type (c.args.map ρc)).run P w = .ok v w := by
        unfold Builtin.min_
        simp only [Array.toList_map, hargs, List.map_cons]
        exact q1
      have e : (execOp ρc o).run P w = .ok (.value v) w := by
        simp [execOp, ho, resolve, hcal, invoke, builtin, hm]
      rw [e]
      exact NN.same h q2 q3
    · exact hv.elim
  · rename_i hcal
    split at hv
    · rename_i x rs hargs
      obtain ⟨v, r, q1, q2, q3⟩ := minA_sound (mx := true) (x := ρ x) (a := ρc x) (rs.map ρ) (rs.map ρc) _ _ (hρ x) (by simp) (fun j y b h1 h2 => by
        simp only [List.getElem?_map, Option.map_eq_some_iff] at h1 h2
        obtain ⟨p, hp, rfl⟩ := h1
        obtain ⟨p', hp', rfl⟩ := h2
        rw [hp] at hp'
        cases hp'
        exact hρ _) hv
      have hm : (Builtin.max_ c.argTypes o.type (c.args.map ρc)).run P w = .ok v w := by
        unfold Builtin.max_
        simp only [Array.toList_map, hargs, List.map_cons]
        exact q1
      have e : (execOp ρc o).run P w = .ok (.value v) w := by
        simp [execOp, ho, resolve, hcal, invoke, builtin, hm]
      rw [e]
      exact NN.same h q2 q3
    · exact hv.elim
  · rename_i hcal
    split at hv
    · rename_i x hargs
      have hargs' : c.args = #[x] := Array.ext' hargs
      split at hv
      · rename_i e' hd
        obtain ⟨i0, hi0, hdd⟩ := Option.map_eq_some_iff.1 hd
        obtain ⟨t, ht, hi0'⟩ := Option.bind_eq_some_iff.1 hi0
        have hu : P.underlying t = some (.slice e') := by rw [← hdd]; exact (hT t i0 hi0').1
        split at hv
        · rename_i i hi
          have hx := hρ x
          split at hv
          · rename_i p lo n cap sz he
            rw [he] at hx
            split at hv
            · rename_i hck
              rw [Bool.and_eq_true] at hck
              have hz1 := hck.2
              have hsz := of_decide_eq_true hck.1
              subst hsz
              obtain ⟨cs, hcs, hle, hk⟩ := hv
              have hzl : i.zero.length = i.size := by
                obtain ⟨_, inf, z, _, _, _, _, _, hzl⟩ := hT e' i hi
                exact hzl
              obtain ⟨z, hz, hzc⟩ := hT.zeroV hi w
              generalize hv2 : ρc x = v at hx
              cases hx with
              | hs _ _ _ _ _ hp hnc hm =>
                obtain ⟨_, us, TT, hb, hlen, hr⟩ := h.hp p cs hcs
                have hzn : (Builtin.zeroCells i.zero.toArray n).size = n * i.size := by simp [Builtin.zeroCells, hzl]
                obtain ⟨ok', ext'⟩ := h.store (off := lo) hcs (vs := zerosL i.zero n) (us := (Builtin.zeroCells i.zero.toArray n).toList) (by rw [zerosL_len, hzl, Array.length_toList, hzn]) (by rw [zerosL_len, hzl]; exact hle) (fun j a u ha hu => by
                  have hj := (List.getElem?_eq_some_iff.1 ha).1
                  rw [zerosL_len] at hj
                  rw [zerosL_at hj] at ha
                  rw [Array.getElem?_toList, zeroCells_at hj] at hu
                  cases ha
                  cases hu
                  exact ⟨zero_one hz1 hj, rfl, .lit _⟩)
                have hlen2 : (Builtin.zeroCells i.zero.toArray n).toList.length = n * i.size := by rw [Array.length_toList, hzn]
                have hst := run_storeCells_cells (P := P) (μ p) lo (Builtin.zeroCells i.zero.toArray n).toList 0 w
                  (fun j hj => by rw [Nat.add_zero, cell_block hb, Array.getElem?_eq_getElem (by omega)]; rfl)
                  (fun j hj => by simp [World.frozen?, hb])
                  (fun v hv => by
                    obtain ⟨j, hj⟩ := List.mem_iff_getElem?.1 hv
                    have hjl := (List.getElem?_eq_some_iff.1 hj).1
                    rw [hlen2, ← hzl] at hjl
                    rw [Array.getElem?_toList, zeroCells_at hjl] at hj
                    cases hj
                    exact zero_one hz1 hjl)
                rw [Nat.add_zero] at hst
                have hcl : (Builtin.clear_ c.argTypes o.type #[.slice (some ⟨μ p, lo, none⟩) n cap]).run P w = .ok (.tuple #[]) (w.setCells (μ p) lo (Builtin.zeroCells i.zero.toArray n).toList) := by
                  cases n with
                  | zero =>
                    have e0 : (Builtin.zeroCells i.zero.toArray 0).toList = [] := by simp [Builtin.zeroCells]
                    rw [e0]
                    simp [Builtin.clear_, ht, run_underlying hu, World.setCells]
                  | succ n => simp [Builtin.clear_, ht, run_underlying hu, hz, hzc, hst]
                have e : (execOp ρc o).run P w = .ok (.value (.tuple #[])) (w.setCells (μ p) lo (Builtin.zeroCells i.zero.toArray n).toList) := by
                  simp [execOp, ho, resolve, hcal, hargs', invoke, builtin, hv2, hcl]
                rw [e]
                exact ⟨_, _, _, _, hk, ok', ext', .lit _⟩
            · exact hv.elim
          · exact hv.elim
        · exact hv.elim
      · exact hv.elim
    · exact hv.elim
  · rename_i hcal
    split at hv
    · rename_i x hargs
      have hargs' : c.args = #[x] := Array.ext' hargs
      split at hv
      · rename_i e' hd
        obtain ⟨i0, hi0, hdd⟩ := Option.map_eq_some_iff.1 hd
        obtain ⟨t, ht, hi0'⟩ := Option.bind_eq_some_iff.1 hi0
        have hu : P.underlying t = some (.slice e') := by rw [← hdd]; exact (hT t i0 hi0').1
        have hx := hρ x
        split at hv
        · rename_i p lo n cap sz he
          rw [he] at hx
          generalize hv2 : ρc x = v at hx
          cases hx with
          | hs _ _ _ _ _ hp hnc hm =>
            have hcp : (Builtin.cap_ c.argTypes o.type #[.slice (some ⟨μ p, lo, none⟩) n cap]).run P w = .ok (goInt cap) w := by
              simp [Builtin.cap_, ht, run_underlying hu]
            have e : (execOp ρc o).run P w = .ok (.value (goInt cap)) w := by
              simp [execOp, ho, resolve, hcal, hargs', invoke, builtin, hv2, hcp]
            rw [e]
            exact NN.same h hv (.lit _)
        · exact hv.elim
      · exact hv.elim
    · exact hv.elim
  · rename_i hcal
    split at hv
    · rename_i s x hargs
      have hargs' : c.args = #[s, x] := Array.ext' hargs
      split at hv
      · rename_i e' hd
        obtain ⟨i0, hi0, hdd⟩ := Option.map_eq_some_iff.1 hd
        obtain ⟨t, ht, hi0'⟩ := Option.bind_eq_some_iff.1 hi0
        have hu : P.underlying t = some (.slice e') := by rw [← hdd]; exact (hT t i0 hi0').1
        split at hv
        · rename_i i hi
          obtain ⟨v, w', q1, q2⟩ := vcCopy_sound hT h hu hi (hρ s) (hρ x) hv o.type c.argTypes ht
          have e : (execOp ρc o).run P w = .ok (.value v) w' := by
            simp [execOp, ho, resolve, hcal, hargs', invoke, builtin, q1]
          rw [e]
          exact q2
        · exact hv.elim
      · exact hv.elim
    · exact hv.elim
  · rename_i hcal
    split at hv
    · rename_i s x hargs
      have hargs' : c.args = #[s, x] := Array.ext' hargs
      split at hv
      · rename_i e' hd
        obtain ⟨i0, hi0, hdd⟩ := Option.map_eq_some_iff.1 hd
        obtain ⟨t, ht, hi0'⟩ := Option.bind_eq_some_iff.1 hi0
        have hu : P.underlying t = some (.slice e') := by rw [← hdd]; exact (hT t i0 hi0').1
        split at hv
        · rename_i i hi
          have go : ∀ (tx : TypeId), c.argTypes[1]? = some tx → ((∃ e'', P.underlying tx = some (.slice e'')) ∨ P.underlying tx = some .string) → vcApp i (ρ s) (ρ x) st K → Fin P (NN base J w0 st μ σ w K) ((execOp ρc o).run P w) := by
            intro tx htx hk hv
            obtain ⟨v, w', q1, q2⟩ := vcApp_sound hT h hu hi hk (hρ s) (hρ x) hv o.type
            have hap : (Builtin.append_ c.argTypes o.type #[ρc s, ρc x]).run P w = .ok v w' := by
              simp only [Builtin.append_, ht, htx] at q1 ⊢
              exact q1
            have e : (execOp ρc o).run P w = .ok (.value v) w' := by
              simp [execOp, ho, resolve, hcal, hargs', invoke, builtin, hap]
            rw [e]
            exact q2
          split at hv
          · rename_i e2 hd2
            obtain ⟨i2, hi2, hdd2⟩ := Option.map_eq_some_iff.1 hd2
            obtain ⟨tx, htx, hi2'⟩ := Option.bind_eq_some_iff.1 hi2
            exact go tx htx (.inl ⟨e2, by rw [← hdd2]; exact (hT tx i2 hi2').1⟩) hv
          · rename_i hd2
            obtain ⟨i2, hi2, hdd2⟩ := Option.map_eq_some_iff.1 hd2
            obtain ⟨tx, htx, hi2'⟩ := Option.bind_eq_some_iff.1 hi2
            exact go tx htx (.inr (by rw [← hdd2]; exact (hT tx i2 hi2').1)) hv
          · exact hv.elim
        · exact hv.elim
      · exact hv.elim
    · exact hv.elim
  · rename_i f hcal
    have hf := hρ f
    split at hv
    · rename_i k us vs he
      rw [he] at hf
      obtain ⟨a1, a2⟩ := ofV_at (w := w) (I := Im base J st μ σ) (hl := st.heap.length) (μ := μ) (tk := st.tk) (σ := σ) us
      obtain ⟨b1, b2⟩ := ofV_at (w := w) (I := Im base J st μ σ) (hl := st.heap.length) (μ := μ) (tk := st.tk) (σ := σ) vs
      obtain ⟨c1, c2⟩ := args_at hρ c.args a1 b1 a2 b2
      rcases vcCall_sound h c1 c2 hv with ⟨hcall, hc⟩ | ⟨v, w', hcall, hc⟩
      · rw [call_run ho hcal hf.of_lit hcall]
        exact hc
      · have e : (execOp ρc o).run P w = .ok (.value v) w' := by
          rw [Array.append_assoc] at hcall
          simp [execOp, ho, resolve, hcal, hf.of_lit, Deferred.ofValue, invoke, hcall]
        rw [e]
        exact hc
    · rename_i k us vs he
      rw [he] at hf
      generalize hg : ρc f = fv at hf
      cases hf with
      | fn f first captured us vs e1 e2 hr1 hr2 =>
        obtain ⟨c1, c2⟩ := args_at hρ c.args e1 e2 hr1 hr2
        rcases vcCall_sound h c1 c2 hv with ⟨hcall, hc⟩ | ⟨v, w', hcall, hc⟩
        · rw [call_run ho hcal hg hcall]
          exact hc
        · have e : (execOp ρc o).run P w = .ok (.value v) w' := by
            rw [Array.append_assoc] at hcall
            simp [execOp, ho, resolve, hcal, hg, Deferred.ofValue, invoke, hcall]
          rw [e]
          exact hc
    · exact hv.elim
  · exact hv.elim
end

section
variable {base : Nat} {J : Nat → Nat → Prop} {w0 : World} {st : St} {μ : Nat → Nat} {σ : Nat → Tkt} {w w' : World} {P : Program} {T : Tab} {K : AV → St → Prop}

theorem bytes_row (b : ByteArray) {n : Nat} (us : List Value) (hu : ∀ j (hj : j < b.data.toList.length), us[j]? = some (.int .u8 (b.data.toList[j].toNat : Int))) (hl : us.length = n) (hn : n = b.data.toList.length) : Row base J st μ σ w 1 (b.data.toList.map fun c => [AV.u8 c]) us := by
  refine ⟨by simp [hl, hn], fun k e he => ?_, fun k e j a he ha => ?_⟩
  · simp only [List.getElem?_map, Option.map_eq_some_iff] at he
    obtain ⟨c, hc, rfl⟩ := he
    exact ⟨rfl, rfl⟩
  · simp only [List.getElem?_map, Option.map_eq_some_iff] at he
    obtain ⟨c, hc, rfl⟩ := he
    have hj : j = 0 := by
      have := (List.getElem?_eq_some_iff.1 ha).1
      simp at this
      exact this
    subst hj
    simp at ha
    subst ha
    obtain ⟨hk, hk'⟩ := List.getElem?_eq_some_iff.1 hc
    refine ⟨_, ?_, .lit _⟩
    rw [Nat.mul_one, Nat.add_zero, hu k hk, hk']

theorem convert_sound (hT : T.Ok P) (h : Ok base J w0 st μ σ w) {ρ : Operand → AV} {ρc : Operand → Value} (hρ : ∀ x, At base J st μ σ w (ρ x) (ρc x)) {o : Oper} {src dst : TypeId} {x : Operand} (ho : o.op = .convert src dst x)
    (hv : vcOp P T (.convert src dst x) ρ st K) : Fin P (NN base J w0 st μ σ w K) ((execOp ρc o).run P w) := by
  simp only [vcOp, listK_iff, listLK_iff, AV.fc_iff] at hv
  have hx := hρ x
  split at hv
  · exact hv.elim
  · rename_i ds hds
    have hus := hT.und hds
    split at hv
    · rename_i k hd
      have hud := hT.und hd
      split at hv
      · rename_i k' n he
        rw [he] at hx
        have e : (execOp ρc o).run P w = .ok (.value (.int k (k.wrap n))) w := by
          cases ds <;> simp [execOp, ho, hx.of_lit, convert, run_underlying hus, run_underlying hud, Conv.intToInt]
        rw [e]
        exact NN.same h (hv _ rfl) (.lit _)
      · exact hv.elim
    · rename_i hd
      have hud := hT.und hd
      split at hv
      · split at hv
        · rename_i s he
          rw [he] at hx
          have e : (execOp ρc o).run P w = .ok (.value (.string s)) w := by
            simp [execOp, ho, hx.of_lit, convert, run_underlying hus, run_underlying hud]
          rw [e]
          exact NN.same h hv (.lit _)
        · exact hv.elim
      · rename_i e
        split at hv
        · rename_i hde
          have hue := hT.und hde
          split at hv
          · rename_i tg sz es he
            rw [he] at hx
            split at hv
            · rename_i hsz
              have hsz := of_decide_eq_true hsz
              subst hsz
              obtain ⟨b, rfl, hk⟩ := hv
              have hb : (⟨b.data.toList.toArray⟩ : ByteArray) = b := by cases b; simp
              rcases hx.sl_inv with ⟨_, h0, a, cap, hv2, hm⟩ | ⟨g, o2, cap, us, hv2, hs', hn', hm, hc, hr, ht1, ht2⟩
              · have h1 : b.data.toList = [] := by simpa using h0
                have hbe : b = ⟨#[]⟩ := by rw [← hb, h1]
                have e : (execOp ρc o).run P w = .ok (.value (.string b)) w := by
                  cases a with
                  | none =>
                    have := run_convert_bytes_string (P := P) w src dst e none 0 cap hus hue hud
                    simp [execOp, ho, hv2, this, Conv.bytesToString, hbe]
                    rfl
                  | some a =>
                    have := run_convert_bytes_back (P := P) w src dst e a cap [] hus hue hud (fun j hj => by simp at hj)
                    simp only [List.length_nil] at this
                    simp [execOp, ho, hv2, this, hbe]
                rw [e]
                exact NN.same h hk (.lit _)
              · have := run_convert_bytes_back (P := P) w src dst e ⟨g, o2, none⟩ cap b.data.toList hus hue hud (fun j hj => by
                  have h1 : (b.data.toList.map fun c => [AV.u8 c])[j]? = some [AV.u8 b.data.toList[j]] := by simp [List.getElem?_map, List.getElem?_eq_getElem hj]
                  obtain ⟨q1, q2⟩ := hc j _ 0 _ h1 rfl
                  have q3 := (hr j _ 0 _ h1 rfl).of_lit
                  rw [Addr.add_lit]
                  rw [Nat.mul_one, Nat.add_zero] at q2
                  rw [q2, q3])
                rw [hb] at this
                simp only [List.length_map] at hv2
                have e : (execOp ρc o).run P w = .ok (.value (.string b)) w := by
                  simp only [execOp, ho, hv2, Sem.run_bind, this, Result.andThen_ok, Sem.run_pure]
                rw [e]
                exact NN.same h hk (.lit _)
            · exact hv.elim
          · rename_i n cap he
            rw [he] at hx
            have := run_convert_bytes_string (P := P) w src dst e none n cap hus hue hud
            have e : (execOp ρc o).run P w = .ok (.value (.string .empty)) w := by
              simp [execOp, ho, hx.of_lit, this, Conv.bytesToString]
            rw [e]
            exact NN.same h hv (.lit _)
          · rename_i p lo n cap sz he
            rw [he] at hx
            split at hv
            · obtain ⟨cs, b, hcs, rfl, hat, hk⟩ := hv
              have hb : (⟨b.data.toList.toArray⟩ : ByteArray) = b := by cases b; simp
              have hbl : b.data.toList.length = b.size := data_len b
              generalize hv2 : ρc x = v at hx
              cases hx with
              | hs _ _ _ _ _ hp hnc hm =>
                obtain ⟨_, us, TT, hbk, hlen, hr⟩ := h.hp p cs hcs
                have := run_convert_bytes_back (P := P) w src dst e ⟨μ p, lo, none⟩ cap b.data.toList hus hue hud (fun j hj => by
                  have h1 := hat j (by omega)
                  have h2 := (List.getElem?_eq_some_iff.1 h1).1
                  have h3 : us[lo + j]? = some us[lo + j] := Array.getElem?_eq_getElem (by omega)
                  rw [Addr.add_lit, cell_block hbk, h3, ((hr _ _ _ h1 h3).2.2).of_lit]
                  rfl)
                rw [hb, hbl] at this
                have e : (execOp ρc o).run P w = .ok (.value (.string b)) w := by
                  simp only [execOp, ho, hv2, Sem.run_bind, this, Result.andThen_ok, Sem.run_pure]
                rw [e]
                exact NN.same h hk (.lit _)
            · exact hv.elim
          · exact hv.elim
        · exact hv.elim
      · exact hv.elim
    · rename_i e hd
      have hud := hT.und hd
      split at hv
      · split at hv
        · rename_i hde
          have hue := hT.und hde
          split at hv
          · rename_i s he
            rw [he] at hx
            have hrun := run_bytes_of_string (P := P) w src dst e s hus hud hue
            have e1 : (execOp ρc o).run P w = .ok (.value (.slice (some ⟨w.heap.size, 0, none⟩) s.size (grownCap w s.size 0 e))) (w.drew.alloc (.cells (bytesRow s (grownCap w s.size 0 e)) e ((bytesRow s (grownCap w s.size 0 e)).size, (bytesRow s (grownCap w s.size 0 e)).size + 1))) := by
              simp only [execOp, ho, hx.of_lit, Sem.run_bind, hrun, Result.andThen_ok, Sem.run_pure]
            rw [e1]
            obtain ⟨hsm, hk⟩ := hv
            obtain ⟨ok', ext'⟩ := h.step ((below_drew w).alloc (by simp) (.cells (bytesRow s (grownCap w s.size 0 e)) e ((bytesRow s (grownCap w s.size 0 e)).size, (bytesRow s (grownCap w s.size 0 e)).size + 1)))
            refine ⟨_, _, _, _, hk, ok', ext', ?_⟩
            have hrow := bytes_row (base := base) (J := J) (st := st) (μ := μ) (σ := σ) (w := w.drew.alloc (.cells (bytesRow s (grownCap w s.size 0 e)) e ((bytesRow s (grownCap w s.size 0 e)).size, (bytesRow s (grownCap w s.size 0 e)).size + 1))) s (n := s.data.toList.length) (s.data.toList.map fun c => .int .u8 (c.toNat : Int)) (fun j hj => by simp [List.getElem?_map, List.getElem?_eq_getElem hj]) (by simp) rfl
            have := hrow.sl .no w.heap.size 0 (grownCap w s.size 0 e) (by rw [List.length_map, data_len]; exact grownCap_ge w s.size 0 e) (grownCap_le_maxLen w s.size 0 e hsm) (fun j u hu => ⟨h.im_new (Nat.le_refl _) _, ?_⟩) (fun h => by cases h) (fun i' e' h => by cases h)
            · rw [List.length_map, data_len] at this
              exact this
            · have hj := (List.getElem?_eq_some_iff.1 hu).1
              rw [List.length_map, data_len] at hj
              have hc := World.cell?_alloc_mark w.drew (bytesRow s (grownCap w s.size 0 e)) e ((bytesRow s (grownCap w s.size 0 e)).size, (bytesRow s (grownCap w s.size 0 e)).size + 1) j
              have hws : w.drew.heap.size = w.heap.size := rfl
              rw [hws] at hc
              rw [Nat.zero_add, hc, bytesRow, Array.getElem?_append_left (by rw [Array.size_map]; exact hj)]
              rw [← hu]
              simp
          · exact hv.elim
        · exact hv.elim
      · exact hv.elim
    · exact hv.elim

theorem eqGuard_run {op : BinOp} {t : TypeId} {x y : AV} {a b : Value} {K1 : AV → Prop} (ox oy : Operand) (hx : At base J st μ σ w x a) (hy : At base J st μ σ w y b) (hv : vcBin P T op t x y K1) :
    (eqGuard op t ox oy a b).run P w = .ok () w := by
  unfold vcBin at hv
  split at hv
  · split at hv
    · have hg := (Bool.or_eq_false_iff.1 hv.1).2
      cases hx
      cases hy
      cases op <;> simp [eqGuard, hg]
    · exact hv.elim
  all_goals first | (cases hx; cases hy; (cases op <;> rfl)) | exact hv.elim

theorem makeSlice_sound (hT : T.Ok P) (h : Ok base J w0 st μ σ w) {ρ : Operand → AV} {ρc : Operand → Value} (hρ : ∀ x, At base J st μ σ w (ρ x) (ρc x)) {o : Oper} {t : TypeId} {l c : Operand} (ho : o.op = .makeSlice t l c)
    (hv : vcOp P T (.makeSlice t l c) ρ st K) : Fin P (NN base J w0 st μ σ w K) ((execOp ρc o).run P w) := by
  simp only [vcOp, listK_iff, listLK_iff, AV.fc_iff] at hv
  split at hv
  · rename_i e hd
    have hus := hT.und hd
    split at hv
    · rename_i i hi
      split at hv
      · rename_i hall
        split at hv
        · rename_i kl n hel
          split at hv
          · rename_i kc m hec
            obtain ⟨a, b, rfl, rfl, hab, hbm, hby, hk⟩ := hv
            have hl := hρ l
            rw [hel] at hl
            have hl := hl.of_lit
            have hc := hρ c
            rw [hec] at hc
            have hc := hc.of_lit
            obtain ⟨z, hz, hzc⟩ := hT.zeroV hi w
            obtain ⟨_, inf, z', h1, h2, h3, h4, h5, h6⟩ := hT e i hi
            have hmx : maxLen = 9223372036854775807 := rfl
            have wl : IntKind.i64.wrap (a : Int) = a := by rw [IntKind.wrap_i64]; omega
            have wc : IntKind.i64.wrap (b : Int) = b := by rw [IntKind.wrap_i64]; omega
            have hby' : ((inf.bytes * b : Nat) : Int) ≤ 140737488355328 := by rw [h5, Nat.mul_comm]; omega
            rw [Int.natCast_mul] at hby'
            have n1 : ¬ ((b : Int) < 0) := by omega
            have n2 : ¬ (281474976710656 < (inf.bytes : Int) * (b : Int)) := by omega
            have n3 : ¬ ((a : Int) < 0) := by omega
            have n4 : ¬ ((b : Int) < (a : Int)) := by omega
            have hroom : ¬ (b * inf.bytes > roomBytes) := by
              rw [h5]
              show ¬ (b * i.bytes > 140737488355328)
              omega
            obtain ⟨us, hus2⟩ : ∃ us : Array Value, us = (Array.range (b * i.size)).map (fun q => z.cells[q % z.cells.size]!) := ⟨_, rfl⟩
            have hzl : z.cells.size = i.size := by rw [hzc, List.size_toArray, h6]
            have eRun : (execOp ρc o).run P w = .ok (.value (.slice (some ⟨w.heap.size, 0, none⟩) a b)) (w.alloc (.cells us e)) := by
              have hti : (typeInfo e).run P w = .ok inf w := by simp [typeInfo, h1]
              have hask : (askRoom (b * inf.bytes)).run P w = .ok () w := by simp [askRoom, hroom]
              by_cases hn : b * i.size = 0
              · have eR : ∀ f : Nat → Value, (Array.range 0).map f = #[] := fun f => by simp [Array.range]
                have e0 : us = #[] := by rw [hus2, hn]; exact eR _
                rw [e0]
                simp [execOp, ho, Instr.makeSlice, run_underlying hus, hl, hc, asInt, asIntOf, wl, wc, n1, n2, n3, n4, hti, hask, hT.size hi, hn, newRow, eR]
              · simp [execOp, ho, Instr.makeSlice, run_underlying hus, hl, hc, asInt, asIntOf, wl, wc, n1, n2, n3, n4, hti, hask, hT.size hi, hn, hz, newRow, hus2]
            rw [eRun]
            obtain ⟨ok', ext'⟩ := h.newVar (zerosL i.zero b) us e (by rw [zerosL_len, hus2, h6]; simp) (fun j x u ha hu => by
              have hj := (List.getElem?_eq_some_iff.1 ha).1
              rw [zerosL_len, h6] at hj
              rw [zerosL_at (by rw [h6]; exact hj)] at ha
              cases ha
              have hmod : j % i.size < i.size := Nat.mod_lt _ (by
                rcases Nat.eq_zero_or_pos i.size with e0 | e0
                · rw [e0] at hj; simp at hj
                · exact e0)
              have hu2 : u = i.zero.getD (j % i.zero.length) undef := by
                rw [hus2] at hu
                simp only [Array.getElem?_map, Array.getElem?_range, hj, if_true, Option.map_some, Option.some.injEq] at hu
                rw [← hu, hzl, h6, getElem!_pos z.cells _ (by rw [hzl]; exact hmod)]
                simp [hzc, List.getD_eq_getElem?_getD]
                rw [List.getElem?_eq_getElem (by rw [h6]; exact hmod)]
                rfl
              rw [hu2]
              exact ⟨zero_one (n := b) hall (by rw [h6]; exact hj), rfl, .lit _⟩)
            refine ⟨_, _, _, _, hk, ok', ext', ?_⟩
            have := Rp.hs (w := w.alloc (.cells us e)) (I := Im base J ⟨st.heap ++ [zerosL i.zero b], st.tk⟩ (upd μ st.heap.length w.heap.size) σ) (hl := st.heap.length + 1) (μ := upd μ st.heap.length w.heap.size) (tk := st.tk) (σ := σ) st.heap.length 0 a b i.size (by omega) hab hbm
            rw [upd_same] at this
            simpa [At] using this
          · exact hv.elim
        · exact hv.elim
      · exact hv.elim
    · exact hv.elim
  · exact hv.elim

theorem vcOp_sound (hT : T.Ok P) (h : Ok base J w0 st μ σ w) {ρ : Operand → AV} {ρc : Operand → Value} (hρ : ∀ x, At base J st μ σ w (ρ x) (ρc x)) {o : Oper}
    (hv : vcOp P T o.op ρ st K) : Fin P (NN base J w0 st μ σ w K) ((execOp ρc o).run P w) := by
  cases ho : o.op <;> rw [ho] at hv
  case move x => simp only [vcOp, AV.fc_iff] at hv; simp only [execOp, ho]; exact NN.same h hv (hρ x)
  case assign x => simp only [vcOp, AV.fc_iff] at hv; simp only [execOp, ho]; exact NN.same h hv (hρ x)
  case pick c a b =>
    simp only [vcOp, listK_iff, listLK_iff, AV.fc_iff] at hv
    split at hv
    · rename_i t he
      have hc := hρ c
      rw [he] at hc
      have hc := hc.of_lit
      cases t
      · have e : (execOp ρc o).run P w = .ok (.value (ρc b)) w := by simp [execOp, ho, hc, asBool]
        rw [e]; exact NN.same h hv (hρ b)
      · have e : (execOp ρc o).run P w = .ok (.value (ρc a)) w := by simp [execOp, ho, hc, asBool]
        rw [e]; exact NN.same h hv (hρ a)
    · exact hv.elim
  case binOp op t x y ty =>
    simp only [vcOp, listK_iff, listLK_iff, AV.fc_iff] at hv
    obtain ⟨v, r, q1, q2, q3⟩ := vcBin_sound hT (hρ x) (hρ y) hv
    have hg := eqGuard_run (P := P) x y (hρ x) (hρ y) hv
    have e : (execOp ρc o).run P w = .ok (.value v) w := by
      simp [execOp, ho, hg, q1]
    rw [e]
    exact NN.same h q2 q3
  case unOp op t x =>
    simp only [vcOp, listK_iff, listLK_iff, AV.fc_iff] at hv
    exact Pu.fin h (vcUn_sound (hρ x) hv) (by simp only [execOp, ho])
  case extract x i =>
    simp only [vcOp, listK_iff, listLK_iff, AV.fc_iff] at hv
    exact Pu.fin h (K := K) (extract_sound (i := i) (hρ x) hv) (by simp only [execOp, ho])
  case load t a => exact load_sound hT h hρ ho hv
  case store t a x => exact store_sound hT h hρ ho hv
  case alloc t => exact alloc_sound (ρ := ρ) hT h ho hv
  case box t x => exact box_sound (T := T) h hρ ho hv
  case build t parts => exact build_sound hT h hρ ho hv
  case buildSlice t len parts => exact buildSlice_sound hT h hρ ho hv
  case makeSlice t l c => exact makeSlice_sound hT h hρ ho hv
  case nilCheck x => exact nilCheck_sound (T := T) h hρ ho hv
  case fieldAddr s x f => exact fieldAddr_sound hT h hρ ho hv
  case field s x f => exact field_sound hT h hρ ho hv
  case indexAddr t x ix => exact indexAddr_sound hT h hρ ho hv
  case index t x ix => exact index_sound hT h hρ ho hv
  case slice t x lo hi mx =>
    cases mx with
    | none => exact vcSlice_sound hT h hρ ho hv
    | some m => simp only [vcOp, listK_iff, listLK_iff, AV.fc_iff] at hv
  case makeFunc f first captured =>
    simp only [vcOp, listK_iff, listLK_iff, AV.fc_iff] at hv
    have e : (execOp ρc o).run P w = .ok (.value (.func f (first.map ρc) (captured.map ρc))) w := by simp [execOp, ho, Instr.makeFunc]
    rw [e]
    have hm : ∀ (args : Array Operand) (j : Nat) a u, (args.toList.map ρ)[j]? = some a → (args.map ρc)[j]? = some u → At base J st μ σ w a u := fun args j a u ha hu => by
      simp only [List.getElem?_map, Option.map_eq_some_iff] at ha
      obtain ⟨x, hx, rfl⟩ := ha
      rw [Array.getElem?_toList] at hx
      simp [hx] at hu
      subst hu
      exact hρ x
    exact NN.same h hv (.fn f _ _ _ _ (by simp) (by simp) (hm first) (hm captured))
  case convert src dst x => exact convert_sound hT h hρ ho hv
  case call c => exact call_sound hT h hρ ho hv
  all_goals simp only [vcOp, listK_iff, listLK_iff, AV.fc_iff] at hv

end

section
variable {base : Nat} {J : Nat → Nat → Prop} {w0 : World} {st : St} {μ : Nat → Nat} {σ : Nat → Tkt} {w w' : World} {P : Program} {T : Tab}

/-- a frame's standing for an abstract one -/
def FrAt (base : Nat) (J : Nat → Nat → Prop) (st : St) (μ : Nat → Nat) (σ : Nat → Tkt) (w : World) (fr : Fr) (tmps : Array Value) : Prop :=
  fr.length = tmps.size ∧ ∀ (i : Nat) a v, fr[i]? = some a → tmps[i]? = some v → At base J st μ σ w a v
theorem FrAt.ext {st' : St} {μ' : Nat → Nat} {σ' : Nat → Tkt} {fr : Fr} {tmps : Array Value} (h : FrAt base J st μ σ w fr tmps) (x : Ext base J st μ σ w st' μ' σ' w') : FrAt base J st' μ' σ' w' fr tmps :=
  ⟨h.1, fun i a v h1 h2 => x.at (h.2 i a v h1 h2)⟩
theorem FrAt.tmp {fr : Fr} {tmps : Array Value} (h : FrAt base J st μ σ w fr tmps) (t : Nat) : At base J st μ σ w (fr.getD t .un) (tmps.getD t undef) := by
  have hl := h.1
  by_cases ht : t < fr.length
  · have h1 : fr[t]? = some fr[t] := List.getElem?_eq_getElem ht
    have ht2 : t < tmps.size := by omega
    have h2 : tmps[t]? = some tmps[t] := Array.getElem?_eq_getElem ht2
    have := h.2 t _ _ h1 h2
    rw [List.getD_eq_getElem?_getD, h1]
    rw [show tmps.getD t undef = tmps[t] from by simp [Array.getD, ht2]]
    exact this
  · have h1 : fr[t]? = none := List.getElem?_eq_none (by omega)
    have ht2 : ¬ t < tmps.size := by omega
    rw [List.getD_eq_getElem?_getD, h1]
    rw [show tmps.getD t undef = undef from by simp [Array.getD, ht2]]
    exact .lit _
theorem FrAt.ev {fr : Fr} {a : Act} (h : FrAt base J st μ σ w fr a.tmps) (x : Operand) : At base J st μ σ w (fr.ev x) (a.eval x) := by
  cases x with
  | const v => exact .ofV v
  | global g => exact .lit _
  | func f => exact .lit _
  | tmp t => exact h.tmp t
theorem FrAt.put {fr : Fr} {a : Act} (h : FrAt base J st μ σ w fr a.tmps) {r : AV} {v : Value} (d : Option Tmp) (hr : At base J st μ σ w r v) : FrAt base J st μ σ w (fr.put d r) (a.put d v).tmps := by
  cases d with
  | none => exact h
  | some d =>
    refine ⟨by simp [Fr.put, Act.put, h.1], fun i b u h1 h2 => ?_⟩
    simp only [Fr.put, Act.put] at h1 h2
    by_cases e : d = i
    · subst e
      have hl := (List.getElem?_eq_some_iff.1 h1).1
      simp only [List.length_set] at hl
      rw [List.getElem?_set_self hl] at h1
      rw [Array.getElem?_setIfInBounds, if_pos rfl, if_pos (by have := h.1; omega)] at h2
      cases h1; cases h2
      exact hr
    · rw [List.getElem?_set_ne e] at h1
      rw [Array.getElem?_setIfInBounds, if_neg e] at h2
      exact h.2 i b u h1 h2
theorem Act.put_defers' (a : Act) (d : Option Tmp) (v : Value) : (a.put d v).defers = a.defers := by cases d <;> rfl
theorem FrAt.le {fr fr' : Fr} {tmps : Array Value} (h : FrAt base J st μ σ w fr tmps) {W : List Nat} (hl : Fr.le W fr fr') : FrAt base J st μ σ w fr' tmps := by
  refine ⟨hl.1.symm.trans h.1, fun i b v h1 h2 => ?_⟩
  have hi := (List.getElem?_eq_some_iff.1 h1).1
  have h3 : fr[i]? = some (fr[i]'(by have := hl.1; omega)) := List.getElem?_eq_getElem _
  have h4 := h.2 i _ v h3 h2
  rcases hl.2 i _ b h3 h1 with e | ⟨_, e | e | e⟩
  · rw [e]; exact h4
  · rw [e]; exact h4
  · rw [e]; exact .top v
  · rw [e]; exact h4.strip

/-- what stands behind a piece of code -/
def Rel (base : Nat) (J : Nat → Nat → Prop) (w0 : World) (st : St) (μ : Nat → Nat) (σ : Nat → Tkt) (w : World) (K : Fr → St → Prop) (a' : Act) (w' : World) : Prop :=
  ∃ fr' st' μ' σ', K fr' st' ∧ Ok base J w0 st' μ' σ' w' ∧ Ext base J st μ σ w st' μ' σ' w' ∧ FrAt base J st' μ' σ' w' fr' a'.tmps ∧ a'.defers = []
theorem Rel.le {W : List Nat} {K : Fr → St → Prop} {a : Act} {w'' : World} (h : Rel base J w0 st μ σ w (fun fr' st' => ∃ fr0, Fr.le W fr' fr0 ∧ K fr0 st') a w'') : Rel base J w0 st μ σ w K a w'' := by
  obtain ⟨fr', st'', μ'', σ'', ⟨fr0, h0, h1⟩, h2, h3, h4, h5⟩ := h
  exact ⟨fr0, st'', μ'', σ'', h1, h2, h3, h4.le h0, h5⟩
theorem Rel.ext {st' : St} {μ' : Nat → Nat} {σ' : Nat → Tkt} {K : Fr → St → Prop} {a : Act} {w'' : World} (x : Ext base J st μ σ w st' μ' σ' w') (h : Rel base J w0 st' μ' σ' w' K a w'') : Rel base J w0 st μ σ w K a w'' := by
  obtain ⟨fr', st'', μ'', σ'', h1, h2, h3, h4, h5⟩ := h
  exact ⟨fr', st'', μ'', σ'', h1, h2, x.trans h3, h4, h5⟩

theorem guard0_sound {ops : Array Oper} {g : Option (Nat × Bool)} {fr : Fr} {tmps : Array Value} {A B : Prop} (hf : FrAt base J st μ σ w fr tmps) (o : Oper) (ho : o.guard = g) (h : guard0 ops g fr A B) :
    (Region.wanted o (yielded ops tmps) = true ∧ A) ∨ (Region.wanted o (yielded ops tmps) = false ∧ B) := by
  unfold Region.wanted
  rw [ho]
  unfold guard0 at h
  split at h
  · exact .inl ⟨rfl, h⟩
  · rename_i j want
    split at h
    · exact h.elim
    · rename_i d hd
      have key : ∀ u, fr[d]? = some (.lit u) → tmps[d]? = some u := fun u hu => by
        have hl := (List.getElem?_eq_some_iff.1 hu).1
        have h2 : tmps[d]? = some (tmps[d]'(by have := hf.1; omega)) := Array.getElem?_eq_getElem _
        have := (hf.2 d _ _ hu h2).of_lit
        rw [h2, this]
      split at h
      · rename_i b hb
        have h2 := key _ hb
        have hy : yielded ops tmps j = some b := by simp [yielded, hd, h2]
        simp only [hy]
        cases want <;> cases b <;> first | exact .inl ⟨rfl, h⟩ | exact .inr ⟨rfl, h⟩
      · rename_i us hb
        have h2 := key _ hb
        have hy : yielded ops tmps j = none := by simp [yielded, hd, h2]
        simp only [hy]
        exact .inr ⟨by cases want <;> rfl, h⟩
      · exact h.elim

theorem vcOper_sound (hT : T.Ok P) {ops : Array Oper} {o : Oper} {fr : Fr} {a : Act} {K : Fr → St → Prop} {Kc : Act → World → Prop} {Q : Exit → Act → World → Prop} (h : Ok base J w0 st μ σ w) (hf : FrAt base J st μ σ w fr a.tmps) (hdf : a.defers = [])
    (hk : ∀ a' w', Rel base J w0 st μ σ w K a' w' → Kc a' w') (hv : vcOper P T ops o fr st K) :
    if Region.wanted o (yielded ops a.tmps) then o.wp P a w Kc Q ∨ (o.asks P a w ∧ LetsOut Q) else Kc (a.put o.dst undef) w := by
  rcases guard0_sound hf o rfl (vcOper_iff.1 hv) with ⟨hw, hA⟩ | ⟨hw, hB⟩
  · rw [if_pos hw]
    refine .inl (wp_of_fin (vcOp_sound hT h hf.ev hA) fun v w' hn => hk _ _ ?_)
    obtain ⟨r, st', μ', σ', q1, q2, q3, q4⟩ := hn
    exact ⟨_, st', μ', σ', q1, q2, q3, (hf.ext q3).put o.dst q4, by rw [Act.put_defers', hdf]⟩
  · rw [if_neg (by rw [hw]; decide)]
    exact hk _ _ ⟨_, st, μ, σ, hB, h, .refl, hf.put o.dst (.lit _), by rw [Act.put_defers', hdf]⟩

theorem vcOps_sound (hT : T.Ok P) {ops : Array Oper} {Q : Exit → Act → World → Prop} {K : Fr → St → Prop} : ∀ (l : List Oper) {st : St} {μ : Nat → Nat} {σ : Nat → Tkt} {w : World} {fr : Fr} {a : Act}, Ok base J w0 st μ σ w → FrAt base J st μ σ w fr a.tmps → a.defers = [] →
    (∀ a' w', Rel base J w0 st μ σ w K a' w' → Q .normal a' w') → vcOps P T ops l fr st K → wpList P ops Q l a w
  | [], st, μ, σ, w, fr, a, h, hf, hd, hk, hv => hk _ _ ⟨fr, st, μ, σ, hv, h, .refl, hf, hd⟩
  | o :: l, st, μ, σ, w, fr, a, h, hf, hd, hk, hv => by
    unfold wpList
    refine vcOper_sound hT h hf hd (fun a' w' hr => ?_) hv
    obtain ⟨fr', st', μ', σ', q1, q2, q3, q4, q5⟩ := hr
    exact vcOps_sound hT l q2 q4 q5 (fun a'' w'' hr => hk _ _ (hr.ext q3)) q1

theorem vcAny_sound (hT : T.Ok P) {ops : Array Oper} {Q : Exit → Act → World → Prop} {K : Fr → St → Prop} : ∀ (n : Nat) (listed : Array Bool) {st : St} {μ : Nat → Nat} {σ : Nat → Tkt} {w : World} {fr : Fr} {a : Act}, Ok base J w0 st μ σ w → FrAt base J st μ σ w fr a.tmps → a.defers = [] →
    (∀ a' w', Rel base J w0 st μ σ w K a' w' → Q .normal a' w') → vcAny P T ops K n listed fr st → wpAny P .any ops Q n listed a w
  | 0, listed, st, μ, σ, w, fr, a, h, hf, hd, hk, hv => by
    unfold vcAny at hv
    split at hv
    · rename_i he
      exact ⟨he, hk _ _ ⟨fr, st, μ, σ, hv, h, .refl, hf, hd⟩⟩
    · exact hv.elim
  | n + 1, listed, st, μ, σ, w, fr, a, h, hf, hd, hk, hv => by
    unfold vcAny at hv
    split at hv
    · rename_i he
      refine ⟨fun _ => hk _ _ ⟨fr, st, μ, σ, hv, h, .refl, hf, hd⟩, fun i hi => ?_⟩
      rw [he] at hi
      cases hi
    · rename_i i0 is he
      refine ⟨(fun h0 => by rw [he] at h0; cases h0), fun i hi => ?_⟩
      rw [he] at hi
      obtain ⟨o, ho, hv⟩ := hv i hi
      unfold wpOp
      simp only [ho]
      refine vcOper_sound hT h hf hd (fun a' w' hr => ?_) hv
      obtain ⟨fr', st', μ', σ', q1, q2, q3, q4, q5⟩ := hr
      exact vcAny_sound hT n _ q2 q4 q5 (fun a'' w'' hr => hk _ _ (hr.ext q3)) q1

theorem Rel.mono {K K' : Fr → St → Prop} {a : Act} (hk : ∀ fr st, K fr st → K' fr st) (h : Rel base J w0 st μ σ w K a w') : Rel base J w0 st μ σ w K' a w' := by
  obtain ⟨fr', st', μ', σ', h1, h2⟩ := h
  exact ⟨fr', st', μ', σ', hk _ _ h1, h2⟩

theorem vc_sound (hT : T.Ok P) (hm : P.follows .mixedOrders = true) : ∀ (c : Code) (Q : Exit → Fr → St → Prop) (fr : Fr) (st : St) (μ : Nat → Nat) (σ : Nat → Tkt) (a : Act) (w : World),
    vc P T c Q fr st → Ok base J w0 st μ σ w → FrAt base J st μ σ w fr a.tmps → a.defers = [] → c.wp P (fun e a' w' => Rel base J w0 st μ σ w (Q e) a' w') a w := by
  intro c
  induction c with
  | skip => intro Q fr st μ σ a w hv h hf hd; exact wp_skip ⟨fr, st, μ, σ, hv, h, .refl, hf, hd⟩
  | label l => intro Q fr st μ σ a w hv h hf hd; exact wp_label ⟨fr, st, μ, σ, hv, h, .refl, hf, hd⟩
  | exit id => intro Q fr st μ σ a w hv h hf hd; exact wp_exit ⟨fr, st, μ, σ, hv, h, .refl, hf, hd⟩
  | ret => intro Q fr st μ σ a w hv h hf hd; exact wp_ret ⟨fr, st, μ, σ, hv, h, .refl, hf, hd⟩
  | region id ops draw =>
    intro Q fr st μ σ a w hv h hf hd
    cases draw with
    | false => exact wp_region_list (vcOps_sound hT _ h hf hd (fun _ _ hr => hr) hv)
    | true =>
      have hany : vcAny P T ops (fun fr' st' => ∃ fr0, Fr.le (dsts ops) fr' fr0 ∧ Q .normal fr0 st') ops.size (Array.replicate ops.size false) fr st := draw_any hv
      obtain ⟨ok', ext'⟩ := h.step (below_drew w)
      refine wp_region_any hm ?_
      exact vcAny_sound hT _ _ ok' (hf.ext ext') hd (fun _ _ hr => by
        obtain ⟨fr1, st1, μ1, σ1, ⟨fr0, q0, q1⟩, q2, q3, q4, q5⟩ := hr
        exact ⟨fr0, st1, μ1, σ1, q1, q2, ext'.trans q3, q4.le q0, q5⟩) hany
  | seq x y ihx ihy =>
    intro Q fr st μ σ a w hv h hf hd
    refine wp_seq (wp_mono (ihx _ fr st μ σ a w hv h hf hd) fun e a' w' hr => ?_)
    cases e with
    | normal =>
      obtain ⟨fr', st', μ', σ', q1, q2, q3, q4, q5⟩ := hr
      exact wp_mono (ihy _ fr' st' μ' σ' a' w' q1 q2 q4 q5) fun e a'' w'' hr => hr.ext q3
    | _ => exact hr
  | cond c x y ihx ihy =>
    intro Q fr st μ σ a w hv h hf hd
    simp only [vc] at hv
    split at hv
    · rename_i t he
      have hc := hf.ev c
      rw [he] at hc
      have hc := hc.of_lit
      cases t
      · exact wp_cond_false hc (ihy _ fr st μ σ a w hv h hf hd)
      · exact wp_cond_true hc (ihx _ fr st μ σ a w hv h hf hd)
    · exact hv.elim
  | block id b ih =>
    intro Q fr st μ σ a w hv h hf hd
    refine wp_block (wp_mono (ih _ fr st μ σ a w hv h hf hd) fun e a' w' hr => ?_)
    cases e with
    | exit id' =>
      show (if id' = id then Rel base J w0 st μ σ w (Q .normal) a' w' else Rel base J w0 st μ σ w (Q (.exit id')) a' w')
      by_cases e : id' = id
      · rw [if_pos e]
        exact hr.mono fun fr st hq => by simpa [blockQ, e] using hq
      · rw [if_neg e]
        exact hr.mono fun fr st hq => by simpa [blockQ, e] using hq
    | _ => exact hr
  | loop b ih =>
    intro Q fr st μ σ a w hv h hf hd
    obtain ⟨I, ⟨g0, fr0, hle, hI⟩, hround⟩ := hv
    intro bf k cs
    have key : ∀ g (fr : Fr) (st' : St) (μ' : Nat → Nat) (σ' : Nat → Tkt) (a : Act) (w' : World), I g fr st' → Ok base J w0 st' μ' σ' w' → Ext base J st μ σ w st' μ' σ' w' → FrAt base J st' μ' σ' w' fr a.tmps → a.defers = [] →
        ∃ e a' w'', Rel base J w0 st μ σ w (Q e) a' w'' ∧ Arrives P (lone (bf.at a (.code b :: .inLoop b :: k)) cs w') bf k cs e a' w'' := by
      intro g
      induction g using Nat.strongRecOn with
      | _ g ihg =>
        intro fr st' μ' σ' a w' hI h' x' hf' hd'
        obtain ⟨e, a1, w1, hq, harr⟩ := ih _ fr st' μ' σ' a w' (hround g fr st' hI) h' hf' hd' bf (.inLoop b :: k) cs
        cases e with
        | normal =>
          obtain ⟨fr1, st1, μ1, σ1, ⟨g', fr2, hlt, hle2, hI2⟩, q2, q3, q4, q5⟩ := hq
          obtain ⟨e2, a2, w2, hq2, harr2⟩ := ihg g' hlt fr2 st1 μ1 σ1 a1 w1 hI2 q2 (x'.trans q3) (q4.le hle2) q5
          exact ⟨e2, a2, w2, hq2, .of_steps (Steps.trans harr (.one step_inLoop)) harr2⟩
        | exit id => exact ⟨_, a1, w1, Rel.ext x' (Rel.le hq), .pass (x := .inLoop b) rfl (fun _ _ => .inl (by simp)) harr⟩
        | goto l => exact ⟨_, a1, w1, Rel.ext x' (Rel.le hq), .pass (x := .inLoop b) rfl (fun _ _ => .inl (by simp)) harr⟩
        | ret => exact ⟨_, a1, w1, Rel.ext x' (Rel.le hq), .pass (x := .inLoop b) rfl (fun _ _ => .inl (by simp)) harr⟩
        | panic ch => exact ⟨_, a1, w1, Rel.ext x' (Rel.le hq), .pass (x := .inLoop b) rfl (fun _ _ => .inl (by simp)) harr⟩
        | outgrown => exact ⟨_, a1, w1, Rel.ext x' (Rel.le hq), .pass (x := .inLoop b) rfl (fun _ _ => .inl (by simp)) harr⟩
    obtain ⟨e, a', w', hq, harr⟩ := key g0 fr0 st μ σ a w hI h .refl (hf.le hle) hd
    exact ⟨e, a', w', hq, .of_steps (.one step_loop) harr⟩
  | _ => intro Q fr st μ σ a w hv; exact hv.elim
end

section
variable {base : Nat} {J : Nat → Nat → Prop} {w0 : World} {st : St} {μ : Nat → Nat} {σ : Nat → Tkt} {w w' : World} {P : Program} {T : Tab}

def resG (tmps : Array Value) : ResultVar → Sem Value
  | .tmp t => pure (tmps.getD t undef)
  | .cell a t => do loadVar t (← asAddr (tmps.getD a undef))
theorem results_eq (fn : Func) (tmps : Array Value) : results fn tmps = (fn.results.mapM (resG tmps) >>= fun vs => pure (if h : vs.size = 1 then vs[0] else .tuple vs)) := by
  unfold results
  congr 1
theorem resOne_sound (hT : T.Ok P) (h : Ok base J w0 st μ σ w) {fr : Fr} {tmps : Array Value} (hf : FrAt base J st μ σ w fr tmps) {r : ResultVar} {K : AV → Prop} (hv : resOne T r fr st K) :
    ∃ v a, (resG tmps r).run P w = .ok v w ∧ K a ∧ At base J st μ σ w a v := by
  cases r with
  | tmp t => exact ⟨_, _, rfl, AV.fc_iff.1 hv, hf.tmp t⟩
  | cell a t =>
    simp only [resOne] at hv
    have ha := hf.tmp a
    split at hv
    · exact hv.elim
    · rename_i i hi
      split at hv
      · rename_i p off he
        rw [he] at ha
        obtain ⟨cs, hcs, hl⟩ := hv
        generalize hg : tmps.getD a undef = v at ha
        cases ha
        obtain ⟨_, us, TT, hb, hlen, hr⟩ := h.hp p cs hcs
        obtain ⟨v, r, h1, h2, h3⟩ := ldA_sound (o0 := 0) (b := μ p) hT hi hl (fun j a ha => by
          have hj := (List.getElem?_eq_some_iff.1 ha).1
          have hu : us[j]? = some us[j] := Array.getElem?_eq_getElem (by omega)
          refine ⟨us[j], ?_, (hr j a _ ha hu).2.2⟩
          rw [Nat.zero_add, cell_block hb, hu])
        rw [Nat.zero_add] at h1
        refine ⟨v, r, ?_, h2, h3⟩
        show (do loadVar t (← asAddr (tmps.getD a undef)) : Sem Value).run P w = .ok v w
        rw [hg]
        simp only [asAddr, Sem.run_bind, Sem.run_pure, Result.andThen_ok, h1]
      · exact hv.elim
theorem resAll_sound (hT : T.Ok P) (h : Ok base J w0 st μ σ w) {fr : Fr} {tmps : Array Value} (hf : FrAt base J st μ σ w fr tmps) : ∀ (l : List ResultVar) {K : List AV → Prop}, resAll T l fr st K →
    ∃ vs zs, (l.mapM (resG tmps)).run P w = .ok vs w ∧ K zs ∧ zs.length = vs.length ∧ ∀ (j : Nat) a v, zs[j]? = some a → vs[j]? = some v → At base J st μ σ w a v
  | [], K, hv => ⟨[], [], by simp, hv, rfl, fun j a v h => by simp at h⟩
  | r :: l, K, hv => by
    obtain ⟨v, a, h1, h2, h3⟩ := resOne_sound hT h hf hv
    obtain ⟨vs, zs, k1, k2, k3, k4⟩ := resAll_sound hT h hf l h2
    refine ⟨v :: vs, a :: zs, ?_, k2, by simp [k3], fun j b u hb hu => ?_⟩
    · rw [List.mapM_cons, Sem.run_bind, h1, Result.andThen_ok, Sem.run_bind, k1]
      rfl
    · cases j with
      | zero => simp at hb hu; subst hb; subst hu; exact h3
      | succ j => exact k4 j b u (by simpa using hb) (by simpa using hu)
theorem res_sound (hT : T.Ok P) (h : Ok base J w0 st μ σ w) {fn : Func} {fr : Fr} {tmps : Array Value} (hf : FrAt base J st μ σ w fr tmps) {R : AV → St → Prop}
    (hv : resAll T fn.results.toList fr st fun vs => match vs with | [v] => R v st | vs => R (.tup vs) st) : ∃ v a, (results fn tmps).run P w = .ok v w ∧ R a st ∧ At base J st μ σ w a v := by
  obtain ⟨vs, zs, h1, h2, h3, h4⟩ := resAll_sound hT h hf _ hv
  have hm : (fn.results.mapM (resG tmps)).run P w = .ok vs.toArray w := by
    rw [Array.mapM_eq_mapM_toList, Sem.run_map, h1]
    rfl
  have hr : (results fn tmps).run P w = .ok (if h : vs.toArray.size = 1 then vs.toArray[0] else .tuple vs.toArray) w := by
    rw [results_eq, Sem.run_bind, hm]
    rfl
  rw [hr]
  match zs, vs, h3, h2, h4 with
  | [a], [v], _, h2, h4 => exact ⟨_, a, rfl, h2, h4 0 a v rfl rfl⟩
  | [], [], _, h2, h4 => exact ⟨_, _, rfl, h2, .tup _ _ rfl fun j a u h => by simp at h⟩
  | a :: b :: zs, u :: v :: vs, h3, h2, h4 =>
    refine ⟨.tuple (u :: v :: vs).toArray, _, ?_, h2, .tup _ _ (by simpa using h3) fun j x y hx hy => h4 j x y hx (by simpa using hy)⟩
    rw [dif_neg (by simp)]

/-- a call, out of its body -/
theorem ACalls.of_vc (hT : T.Ok P) (hm : P.follows .mixedOrders = true) {f : FuncId} {fn : Func} {c : Code} (hf : P.funcs[f]? = some fn) (hb : fn.body = some c)
    (hcall : ∀ zs w, (callFunc f zs).run P w = .ok (.enter f zs) w) {args : List AV} {st : St} {R : AV → St → Prop} (hv : frameK fn args fun fr => vc P T c (retQ T fn R) fr st) : ACalls P f args st R := by
  have hv := frameK_iff.1 hv
  refine ⟨hcall, fun base J w0 μ σ w vs h hl ha => ?_⟩
  refine calls_of_wp hf hb (wp_mono (vc_sound hT hm c _ _ st μ σ { tmps := vs ++ Array.replicate (fn.ntmps - vs.size) undef, defers := [] } w hv h ?_ rfl) fun e a' w' hr => ?_)
  · refine ⟨by simp [frame, hl], fun i a v h1 h2 => ?_⟩
    simp only [frame, List.getElem?_append, hl] at h1
    rw [Array.getElem?_append] at h2
    by_cases hi : i < vs.size
    · rw [if_pos hi] at h1 h2
      exact ha i a v h1 h2
    · rw [if_neg hi] at h1 h2
      rw [List.getElem?_replicate] at h1
      rw [Array.getElem?_replicate] at h2
      split at h1
      · split at h2
        · cases h1; cases h2; exact .lit _
        · rename_i q1 q2; exact absurd q1 q2
      · cases h1
  · have ret : ∀ (e : Exit), (e = .normal ∨ e = .ret) → Rel base J w0 st μ σ w (retQ T fn R e) a' w' → a'.defers = [] ∧ ∃ v, (results fn a'.tmps).run P w' = .ok v w' ∧ ∃ v', ∃ r st' μ' σ', Ending.returned v = .returned v' ∧ R r st' ∧ Ok base J w0 st' μ' σ' w' ∧ Ext base J st μ σ w st' μ' σ' w' ∧ At base J st' μ' σ' w' r v' := by
      rintro e he ⟨fr', st', μ', σ', q1, q2, q3, q4, q5⟩
      have q1' : resAll T fn.results.toList fr' st' fun vs => match vs with | [v] => R v st' | vs => R (.tup vs) st' := by
        rcases he with rfl | rfl <;> exact q1
      obtain ⟨v, a, h1, h2, h3⟩ := res_sound hT q2 q4 q1'
      exact ⟨q5, v, h1, v, a, st', μ', σ', rfl, h2, q2, q3, h3⟩
    cases e with
    | normal => exact ret _ (.inl rfl) hr
    | ret => exact ret _ (.inr rfl) hr
    | _ => obtain ⟨fr', st', μ', σ', q1, _⟩ := hr; exact q1.elim

theorem ACalls.mono {f : FuncId} {args : List AV} {R R' : AV → St → Prop} (hk : ∀ r st', R r st' → R' r st') (h : ACalls P f args st R) : ACalls P f args st R' := by
  refine ⟨h.1, fun base J w0 μ σ w vs a b c => (h.2 base J w0 μ σ w vs a b c).mono ?_⟩
  rintro e w' ⟨v, r, st', μ', σ', q1, q2, q3⟩
  exact ⟨v, r, st', μ', σ', q1, hk _ _ q2, q3⟩

def AV.stripR : AV → AV
  | .tup vs => .tup (vs.map AV.strip)
  | a => a.strip
def AV.datR : AV → Bool
  | .tup vs => vs.all AV.dat
  | a => a.dat
/-- the ticket t, and no other one -/
def AV.ren (t : Nat) : AV → AV
  | .sl (.own t' e) sz es => match decide (t' = t) with | true => .sl (.own 0 e) sz es | false => .sl .no sz es
  | a => a
def AV.renR (t : Nat) : AV → AV
  | .tup vs => .tup (vs.map (AV.ren t))
  | a => a.ren t

theorem AV.res_of_datR {r : AV} (hr : r.datR = true) : r.res = true := by
  cases r with
  | tup vs =>
    refine List.all_eq_true.2 fun a ha => ?_
    have := List.all_eq_true.1 hr a ha
    cases a with
    | sl t sz es => cases t <;> first | rfl | exact this
    | _ => exact this
  | sl t sz es => cases t <;> first | rfl | exact hr
  | _ => exact hr
theorem Ok.none (J : Nat → Nat → Prop) (μ : Nat → Nat) (σ : Nat → Tkt) (w : World) (hw : ∀ w', Below w.heap.size w w' → LaidW w') : Ok w.heap.size J w ⟨[], []⟩ μ σ w :=
  ⟨⟨Nat.le_refl _, hw⟩, .refl _ _, fun p cs h => by simp at h, fun p q h => by simp at h, fun t e h => by simp at h⟩

/-- a pure function: run from nothing; of its result no ticket is kept. -/
theorem APure.of {f : FuncId} {args : List AV} {r : AV} (hd : r.datR = true) (h : ACalls P f args ⟨[], []⟩ fun r' _ => r'.stripR = r) : APure P f args r [] := by
  refine ⟨AV.res_of_datR hd, h.1, fun J w vs hw hl ha => ?_⟩
  refine (h.2 w.heap.size J w (fun _ => 0) (fun _ => ⟨0, 0, 0⟩) w vs (Ok.none J _ _ w hw) hl ha).mono ?_
  rintro e w' ⟨v, r', st', μ', σ', rfl, rfl, hok, hx, hat⟩
  refine ⟨v, fun _ => ⟨0, 0, 0⟩, rfl, ⟨hok.bs, hok.below, fun p cs h => by simp at h, fun p q h => by simp at h, fun t e h => by simp at h⟩, ?_⟩
  have hi : ∀ g x, Im w.heap.size J st' μ' σ' g x → g < w'.heap.size → Im w.heap.size J ⟨[], []⟩ (fun _ => 0) (fun _ => ⟨0, 0, 0⟩) g x := fun g x hi _ => ⟨hi.1, fun p hp => by simp at hp, fun t e ht => by simp at ht⟩
  cases r' with
  | tup cs =>
    cases hat with
    | tup cs us e1 hr =>
      refine .tup _ us (by simpa using e1) fun j a u h1 h2 => ?_
      have hda := List.all_eq_true.1 hd a (List.mem_of_getElem? h1)
      simp only [List.getElem?_map, Option.map_eq_some_iff] at h1
      obtain ⟨b, hb, rfl⟩ := h1
      exact (hr j b u hb h2).strip.dat hi hda
  | sl t sz es => exact hat.strip.dat hi hd
  | _ => exact hat.strip.dat hi hd

theorem AV.ren_same (t e sz : Nat) (es : List (List AV)) : (AV.sl (.own t e) sz es).ren t = .sl (.own 0 e) sz es := by simp [AV.ren]
theorem AV.ren_ne {t t' : Nat} (h : t' ≠ t) (e sz : Nat) (es : List (List AV)) : (AV.sl (.own t' e) sz es).ren t = .sl .no sz es := by simp [AV.ren, h]
/-- a ticket's value, the other tickets gone -/
theorem Rp.ren {I I' : Nat → Nat → Prop} {hl hl' : Nat} {μ' : Nat → Nat} {σ' : Nat → Tkt} {tk : List Nat} {t n : Nat} {a : AV} {v : Value} (h : Rp w I hl μ tk σ a v) (hi : ∀ g x, I g x → g < w.heap.size → I' g x) (ht : tk[t]? = some n) (hs : σ' 0 = σ t) (ha : (a.ren t).datA = true) :
    Rp w I' hl' μ' [n] σ' (a.ren t) v := by
  cases h with
  | sl t' sz es g o cap us hs' hn hm hc hr ht1 ht2 =>
    cases t' with
    | no => exact (Rp.sl .no sz es g o cap us hs' hn hm hc hr ht1 ht2).data hi rfl
    | tight => exact (Rp.sl .tight sz es g o cap us hs' hn hm hc hr ht1 ht2).data hi rfl
    | own t' e =>
      have q := (Rp.sl .no sz es g o cap us hs' hn hm hc hr (fun h => by cases h) (fun i e h => by cases h) : Rp w I hl μ tk σ (.sl .no sz es) _)
      by_cases hd : t' = t
      · subst hd
        rw [AV.ren_same]
        refine .sl (.own 0 e) sz es g o cap us hs' hn hm (fun k e j a he ha => ?_) (fun k e j a he ha => (hr k e j a he ha).data hi (List.all_eq_true.1 (hs' k e he).2 a (List.mem_of_getElem? ha))) (fun h => by cases h) (fun i e' hte => ?_)
        · obtain ⟨q1, q2⟩ := hc k e j a he ha
          exact ⟨hi _ _ q1 (World.block_lt_of_cell? w ⟨g, o + k * sz + j, none⟩ q2), q2⟩
        · cases hte
          obtain ⟨e0, k1, k2, k3⟩ := ht2 t' e rfl
          rw [ht] at k1
          cases k1
          exact ⟨n, rfl, k2, fun ee hne => by rw [hs]; exact k3 ee hne⟩
      · rw [AV.ren_ne hd]; exact q.data hi rfl
  | top v => cases ha
  | lit v => exact .lit v
  | sl0 sz a cap hm => exact .sl0 sz a cap hm
  | ptr p off hp => cases ha
  | elt es g o us hf hc hr => cases ha
  | fn f first captured us vs e1 e2 hr1 hr2 => cases ha
  | agg cs us e1 hr => exact (Rp.agg cs us e1 hr).dat hi ha
  | tup cs us e1 hr => cases ha
  | hs p lo n cap sz hp hn hm => cases ha

/-- a pure function whose result keeps one ticket -/
theorem APure.of1 {f : FuncId} {args : List AV} {r : AV} {n : Nat} (hd : r.res = true) (h : ACalls P f args ⟨[], []⟩ fun r' st' => ∃ t, st'.tk[t]? = some n ∧ r'.renR t = r) : APure P f args r [n] := by
  refine ⟨hd, h.1, fun J w vs hw hl ha => ?_⟩
  refine (h.2 w.heap.size J w (fun _ => 0) (fun _ => ⟨0, 0, 0⟩) w vs (Ok.none J _ _ w hw) hl ha).mono ?_
  rintro e w' ⟨v, r', st', μ', σ', rfl, ⟨t, ht, rfl⟩, hok, hx, hat⟩
  obtain ⟨b1, b2, b3, b4⟩ := hok.tkt t n ht
  refine ⟨v, fun _ => σ' t, rfl, ⟨hok.bs, hok.below, fun p cs h => by simp at h, fun p q h => by simp at h, fun t' e h => ?_⟩, ?_⟩
  · refine ⟨b1, b2, fun p hp => by simp at hp, fun t2 e2 h2 _ => ?_⟩
    have h3 := (List.getElem?_eq_some_iff.1 h).1
    have h4 := (List.getElem?_eq_some_iff.1 h2).1
    simp at h3 h4
    omega
  have hi : ∀ g x, Im w.heap.size J st' μ' σ' g x → g < w'.heap.size → Im w.heap.size J ⟨[], [n]⟩ (fun _ => 0) (fun _ => σ' t) g x := fun g x hi _ => ⟨hi.1, fun p hp => by simp at hp, fun t' e _ hg => hi.2.2 t n ht hg⟩
  cases r' with
  | tup cs =>
    cases hat with
    | tup cs us e1 hr =>
      refine .tup _ us (by simpa using e1) fun j a u h1 h2 => ?_
      have hda := List.all_eq_true.1 hd a (List.mem_of_getElem? h1)
      simp only [List.getElem?_map, Option.map_eq_some_iff] at h1
      obtain ⟨b, hb, rfl⟩ := h1
      exact (hr j b u hb h2).ren hi ht rfl hda
  | sl t2 sz es =>
    have hd' : ((AV.sl t2 sz es).ren t).datA = true := by
      cases t2 with
      | own t3 e =>
        by_cases h3 : t3 = t
        · subst h3; rw [AV.ren_same]; rfl
        · rw [AV.ren_ne h3]; rfl
      | _ => rfl
    exact hat.ren hi ht rfl hd'
  | _ => exact hat.ren hi ht rfl hd

/-- the table, as a list -/
def findT : List (Nat × TI) → Tab
  | [], _ => none
  | (t, i) :: r, x => match Nat.beq x t with | true => some i | false => findT r x
def TOk (P : Program) (t : TypeId) (i : TI) : Prop := P.underlying t = some i.desc ∧ ∃ inf z, P.info? t = some inf ∧ inf.zero = some z ∧ z.cells = i.zero.toArray ∧ inf.size = i.size ∧ inf.bytes = i.bytes ∧ i.zero.length = i.size
inductive TOks (P : Program) : List (Nat × TI) → Prop
  | nil : TOks P []
  | cons {t : Nat} {i : TI} {r : List (Nat × TI)} (h : TOk P t i) (hr : TOks P r) : TOks P ((t, i) :: r)
theorem findT_ok {l : List (Nat × TI)} (h : TOks P l) : (findT l).Ok P := by
  induction h with
  | nil => intro t i h; cases h
  | cons h hr ih =>
    intro x j hj
    unfold findT at hj
    split at hj
    · rename_i he
      have he := Nat.eq_of_beq_eq_true he
      subst he
      cases hj
      exact h
    · exact ih x j hj
end
end Go.Proofs.YtgkhnllgmfjhpaaGreatDoor
