/- The operations over abstract values: struct and slice literals, reslicing, calls; all operations together. No statement of its own. -/
import Derived.Test.YtfhodppaelfcfaaDoorVs5
namespace Go.Proofs.YtfhodppaelfcfaaDoor
open Go.RowKit

section
variable {base : Nat} {J : Nat → Nat → Prop} {w0 : World} {st : St} {μ : Nat → Nat} {σ : Nat → Tkt} {w w' : World} {P : Program} {T : Tab} {K : AV → St → Prop}

theorem bndA_sound {ρ : Operand → AV} {ρc : Operand → Value} (hρ : ∀ x, At base J st μ σ w (ρ x) (ρc x)) {o : Option Operand} {d : Nat} {K1 : Nat → Prop} (h : bndA (o.map ρ) d K1) :
    ∃ k, K1 k ∧ ((o = none ∧ k = d) ∨ ∃ kk q, o = some q ∧ ρc q = .int kk (k : Int)) := by
  cases o with
  | none => exact ⟨d, h, .inl ⟨rfl, rfl⟩⟩
  | some q =>
    simp only [Option.map_some] at h
    unfold bndA at h
    split at h
    · rename_i he; cases he
    · rename_i kk n he
      simp only [Option.some.injEq] at he
      obtain ⟨k, rfl, hk⟩ := h
      have := hρ q
      rw [he] at this
      exact ⟨k, hk, .inr ⟨kk, q, rfl, this.of_lit⟩⟩
    · exact h.elim
theorem bounds_run {ρc : Operand → Value} {lo hi : Option Operand} {l h len cap : Nat} (b : Bool) (hl : (lo = none ∧ l = 0) ∨ ∃ kk q, lo = some q ∧ ρc q = .int kk (l : Int)) (hh : (hi = none ∧ h = len) ∨ ∃ kk q, hi = some q ∧ ρc q = .int kk (h : Int))
    (h1 : l ≤ h) (h2 : h ≤ cap) : (Instr.sliceBounds b len cap (lo.map ρc) (hi.map ρc) none).run P w = .ok (l, h, cap) w := by
  have e1 : (0 : Int) ≤ (h : Int) ∧ (h : Int) ≤ (cap : Int) := by omega
  have e2 : (0 : Int) ≤ (l : Int) ∧ (l : Int) ≤ (h : Int) := by omega
  rcases hl with ⟨rfl, rfl⟩ | ⟨kl, ql, rfl, el⟩ <;> rcases hh with ⟨rfl, rfl⟩ | ⟨kh, qh, rfl, eh⟩ <;>
    simp [Instr.sliceBounds, Instr.sliceBound, asIntOf, *] <;> omega

theorem vcSlice_sound (hT : T.Ok P) (h : Ok base J w0 st μ σ w) {ρ : Operand → AV} {ρc : Operand → Value} (hρ : ∀ x, At base J st μ σ w (ρ x) (ρc x)) {o : Oper} {t : TypeId} {x : Operand} {lo hi : Option Operand} (ho : o.op = .slice t x lo hi none)
    (hv : vcOp P T (.slice t x lo hi none) ρ st K) : Fin P (NN base J w0 st μ σ w K) ((execOp ρc o).run P w) := by
  simp only [vcOp] at hv
  have hx := hρ x
  simp only [execOp, ho, Option.map_none]
  have hat : ∀ v, (P.underlying t = some .string ∨ ∃ e, P.underlying t = some (.slice e)) → (Instr.sliceAt t v (lo.map ρc) (hi.map ρc) none).run P w = (Instr.slice t v (lo.map ρc) (hi.map ρc) none).run P w := by
    intro v hu
    rcases hu with hu | ⟨e, hu⟩ <;> simp [Instr.sliceAt, run_underlying hu]
  unfold vcSlice at hv
  split at hv
  · rename_i hd
    have hus := hT.und hd
    split at hv
    · rename_i s he
      rw [he] at hx
      have hx' := hx.of_lit
      obtain ⟨hh, hk, q1⟩ := bndA_sound hρ hv
      obtain ⟨ll, ⟨c1, c2, hk⟩, q2⟩ := bndA_sound hρ hk
      refine Pu.fin h ⟨.string (s.extract ll hh), _, ?_, hk, .lit _⟩ rfl
      rw [hx', hat _ (.inl hus)]
      simp [Instr.slice, run_underlying hus, bounds_run (P := P) (w := w) false q2 q1 c1 c2]
    · exact hv.elim
  · rename_i e hd
    have hus := hT.und hd
    split at hv
    · exact hv.elim
    · rename_i sz' hsz
      obtain ⟨ie, hie, hs⟩ := Option.map_eq_some_iff.1 hsz
      split at hv
      · rename_i tg sz es he
        rw [he] at hx
        split at hv
        · rename_i hsz'
          have hsz' := of_decide_eq_true hsz'
          subst hsz'
          have fin : ∀ (l hh : Nat) (tg' : Tk), l ≤ hh → hh ≤ es.length → (tg' = .no ∨ (tg' = tg ∧ (∃ i e, tg = .own i e) ∧ hh = es.length)) → K (.sl tg' sz' ((es.drop l).take (hh - l))) st → ((lo = none ∧ l = 0) ∨ ∃ kk q, lo = some q ∧ ρc q = .int kk (l : Int)) → ((hi = none ∧ hh = es.length) ∨ ∃ kk q, hi = some q ∧ ρc q = .int kk (hh : Int)) →
              Fin P (NN base J w0 st μ σ w K) ((do pure (.value (← Instr.sliceAt t (ρc x) (lo.map ρc) (hi.map ρc) none)) : Sem Next).run P w) := by
            intro l hh tg' c1 c2 htg hk q2 q1
            rcases hx.sl_inv with ⟨rfl, rfl, a, cap, hv2, hm⟩ | ⟨g, o2, cap, us, hv2, hs', hn', hm, hc, hr, ht1, ht2⟩
            · simp at c2
              subst c2
              have : l = 0 := by omega
              subst this
              refine Pu.fin h (K := K) ⟨.slice (if cap = 0 then a else a.map (·.add 0)) 0 cap, _, ?_, hk, ?_⟩ rfl
              · rw [hat _ (.inr ⟨_, hus⟩), hv2]
                have := bounds_run (P := P) (w := w) true q2 q1 (Nat.le_refl 0) (Nat.zero_le cap)
                simp only [List.length_nil] at this
                simp [Instr.slice, run_underlying hus, this, hT.size hie, hs]
              · rcases htg with rfl | ⟨rfl, ⟨i, e, h9⟩, _⟩
                · exact .sl0 sz' _ cap hm
                · cases h9
            · have hb := bounds_run (P := P) (w := w) (len := es.length) (cap := cap) true q2 q1 c1 (by omega)
              have hrun : (Instr.sliceAt t (ρc x) (lo.map ρc) (hi.map ρc) none).run P w = .ok (.slice (if cap = l then some ⟨g, o2, none⟩ else some ⟨g, o2 + l * sz', none⟩) (hh - l) (cap - l)) w := by
                rw [hat _ (.inr ⟨_, hus⟩), hv2]
                simp [Instr.slice, run_underlying hus, hb, hT.size hie, hs, Addr.add_lit]
              have hlen : ((es.drop l).take (hh - l)).length = hh - l := by simp; omega
              have hget : ∀ (k : Nat) (e : List AV), ((es.drop l).take (hh - l))[k]? = some e → es[l + k]? = some e := fun k e he => by
                rw [List.getElem?_take] at he
                split at he
                · rwa [List.getElem?_drop] at he
                · cases he
              by_cases hcl : cap = l
              · rw [if_pos hcl] at hrun
                have hz : hh - l = 0 := by omega
                have := Rp.sl (w := w) (I := Im base J st μ σ) (hl := st.heap.length) (μ := μ) (tk := st.tk) (σ := σ) tg' sz' ((es.drop l).take (hh - l)) g o2 (cap - l) (fun _ _ => undef) (fun k e he => hs' _ _ (hget k e he)) (by omega) (by omega)
                  (fun k e j a he => by have := (List.getElem?_eq_some_iff.1 he).1; omega) (fun k e j a he => by have := (List.getElem?_eq_some_iff.1 he).1; omega)
                  (fun ht => by omega) (fun i e ht => ?_)
                · rw [hlen] at this
                  exact Pu.fin h ⟨_, _, hrun, hk, this⟩ rfl
                · rcases htg with rfl | ⟨rfl, _, _⟩
                  · cases ht
                  · obtain ⟨e0, k1, k2, k3⟩ := ht2 i e ht
                    exact ⟨e0, k1, k2, fun _ hne => absurd (show cap - l = _ by omega) hne⟩
              · rw [if_neg hcl] at hrun
                have hadd : ∀ k, o2 + l * sz' + k * sz' = o2 + (l + k) * sz' := fun k => by rw [Nat.add_mul]; omega
                have := Rp.sl (w := w) (I := Im base J st μ σ) (hl := st.heap.length) (μ := μ) (tk := st.tk) (σ := σ) tg' sz' ((es.drop l).take (hh - l)) g (o2 + l * sz') (cap - l) (fun k j => us (l + k) j) (fun k e he => hs' _ _ (hget k e he)) (by omega) (by omega)
                  (fun k e j a he ha => by rw [hadd]; exact hc _ e j a (hget k e he) ha) (fun k e j a he ha => hr _ e j a (hget k e he) ha)
                  (fun ht => by rcases htg with rfl | ⟨rfl, ⟨i, e, h9⟩, _⟩; cases ht; rw [h9] at ht; cases ht) (fun i e ht => ?_)
                · rw [hlen] at this
                  exact Pu.fin h ⟨_, _, hrun, hk, this⟩ rfl
                · rcases htg with rfl | ⟨rfl, _, hhe⟩
                  · cases ht
                  · obtain ⟨e0, k1, k2, k3⟩ := ht2 i e ht
                    refine ⟨e0, k1, k2, fun ee hne => ?_⟩
                    rw [hlen] at hne ⊢
                    obtain ⟨m1, m2, m3⟩ := k3 ee (by omega)
                    refine ⟨m1, ?_, ?_⟩
                    · rw [hadd, ← m2]; congr 2; omega
                    · rw [hadd, ← m3]; congr 2; omega
          split at hv
          · rename_i i v hhi
            obtain ⟨l, ⟨c1, hk⟩, q2⟩ := bndA_sound hρ hv
            refine fin l es.length _ c1 (Nat.le_refl _) (.inr ⟨rfl, ⟨_, _, rfl⟩, rfl⟩) ?_ q2 (.inl ⟨Option.map_eq_none_iff.1 hhi, rfl⟩)
            rw [List.take_of_length_le (by simp)]
            exact hk
          · obtain ⟨hh, hk, q1⟩ := bndA_sound hρ hv
            obtain ⟨ll, ⟨c1, c2, hk⟩, q2⟩ := bndA_sound hρ hk
            exact fin ll hh .no c1 c2 (.inl rfl) hk q2 q1
        · exact hv.elim
      · rename_i he
        rw [he] at hx
        have hx' := hx.of_lit
        obtain ⟨hh, hk, q1⟩ := bndA_sound hρ hv
        obtain ⟨ll, ⟨c1, c2, hk2⟩, q2⟩ := bndA_sound hρ hk
        clear hk
        subst c1
        subst c2
        refine Pu.fin h ⟨.slice none 0 0, _, ?_, hk2, .lit _⟩ rfl
        rw [hx', hat _ (.inr ⟨_, hus⟩)]
        simp [Instr.slice, run_underlying hus, bounds_run (P := P) (w := w) true q2 q1 (Nat.le_refl 0) (Nat.le_refl 0), hT.size hie]
      · rename_i p lw n cap sz he
        rw [he] at hx
        split at hv
        · rename_i hsz'
          have hsz' := of_decide_eq_true hsz'
          subst hsz'
          obtain ⟨hh, hk, q1⟩ := bndA_sound hρ hv
          obtain ⟨l, ⟨c1, c2, hk2⟩, q2⟩ := bndA_sound hρ hk
          generalize hv2 : ρc x = v at hx ⊢
          cases hx with
          | hs _ _ _ _ _ hp hnc hm =>
            have hb := bounds_run (P := P) (w := w) (len := n) (cap := cap) true q2 q1 c1 c2
            have hrun : (Instr.sliceAt t (.slice (some ⟨μ p, lw, none⟩) n cap) (lo.map ρc) (hi.map ρc) none).run P w = .ok (.slice (some ⟨μ p, if cap = l then lw else lw + l * sz', none⟩) (hh - l) (cap - l)) w := by
              rw [hat _ (.inr ⟨_, hus⟩)]
              by_cases hcl : cap = l
              · subst hcl
                simp [Instr.slice, run_underlying hus, hb, hT.size hie, hs, Addr.add_lit]
              · simp [Instr.slice, run_underlying hus, hb, hT.size hie, hs, Addr.add_lit, hcl]
            exact Pu.fin h ⟨_, _, hrun, hk2 _ rfl, .hs p _ _ _ _ hp (by omega) (by omega)⟩ rfl
        · exact hv.elim
      · exact hv.elim
  · rename_i na e hd
    have hus := hT.und hd
    split at hv
    · rename_i sz hsz hml
      have hml := of_decide_eq_true hml
      obtain ⟨ie, hie, hs⟩ := Option.map_eq_some_iff.1 hsz
      split at hv
      · rename_i p lw he
        rw [he] at hx
        obtain ⟨hh, hk, q1⟩ := bndA_sound hρ hv
        obtain ⟨l, ⟨c1, c2, hk2⟩, q2⟩ := bndA_sound hρ hk
        generalize hv2 : ρc x = v at hx ⊢
        cases hx with
        | ptr _ _ hp =>
          have hb := bounds_run (P := P) (w := w) (len := na) (cap := na) false q2 q1 c1 c2
          have hrun : (Instr.sliceAt t (.pointer (some ⟨μ p, lw, none⟩)) (lo.map ρc) (hi.map ρc) none).run P w = .ok (.slice (some ⟨μ p, if na = l then lw else lw + l * sz, none⟩) (hh - l) (na - l)) w := by
            by_cases hcl : na = l
            · subst hcl
              simp [Instr.sliceAt, Instr.sureAddr, run_underlying hus, hb, hT.size hie, hs, Addr.add_lit]
            · simp [Instr.sliceAt, Instr.sureAddr, run_underlying hus, hb, hT.size hie, hs, Addr.add_lit, hcl]
          exact Pu.fin h ⟨_, _, hrun, hk2 _ rfl, .hs p _ _ _ _ hp (by omega) (by omega)⟩ rfl
      · exact hv.elim
    · exact hv.elim
  · exact hv.elim
end
end Go.Proofs.YtfhodppaelfcfaaDoor
