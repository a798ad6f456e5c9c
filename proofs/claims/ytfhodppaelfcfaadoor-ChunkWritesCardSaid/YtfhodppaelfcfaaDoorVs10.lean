/- What the conditions over abstract values say holds of the model's run of the code. No statement of its own. -/
import Derived.Test.YtfhodppaelfcfaaDoorVs9
import Derived.Test.YtfhodppaelfcfaaDoorVd
import Derived.Orders
import Derived.Deep.LoopGhost
namespace Go.Proofs.YtfhodppaelfcfaaDoor
open Go.RowKit

section
variable {base : Nat} {J : Nat → Nat → Prop} {w0 : World} {st : St} {μ : Nat → Nat} {σ : Nat → Tkt} {w w' : World} {P : Program} {T : Tab}

/-- a frame's standing for an abstract one -/
def FrAt (base : Nat) (J : Nat → Nat → Prop) (st : St) (μ : Nat → Nat) (σ : Nat → Tkt) (w : World) (fr : Fr) (tmps : Array Value) : Prop :=
  fr.length = tmps.size ∧ ∀ (i : Nat) a v, fr[i]? = some a → tmps[i]? = some v → At base J st μ σ w a v
theorem FrAt.ext {st' : St} {μ' : Nat → Nat} {σ' : Nat → Tkt} {fr : Fr} {tmps : Array Value} (h : FrAt base J st μ σ w fr tmps) (x : Ext base J st μ σ w st' μ' σ' w') : FrAt base J st' μ' σ' w' fr tmps :=
  ⟨h.1, fun i a v h1 h2 => x.at (h.2 i a v h1 h2)⟩
theorem FrAt.tmp {fr : Fr} {tmps : Array Value} (h : FrAt base J st μ σ w fr tmps) (t : Nat) : At base J st μ σ w (fr.getD t .un) (tmps.getD t undef) := by
  have hl := h.1
  by_cases ht : t < fr.length
  · have h1 : fr[t]? = some fr[t] := List.getElem?_eq_getElem ht
    have ht2 : t < tmps.size := by omega
    have h2 : tmps[t]? = some tmps[t] := Array.getElem?_eq_getElem ht2
    have := h.2 t _ _ h1 h2
    rw [List.getD_eq_getElem?_getD, h1]
    rw [show tmps.getD t undef = tmps[t] from by simp [Array.getD, ht2]]
    exact this
  · have h1 : fr[t]? = none := List.getElem?_eq_none (by omega)
    have ht2 : ¬ t < tmps.size := by omega
    rw [List.getD_eq_getElem?_getD, h1]
    rw [show tmps.getD t undef = undef from by simp [Array.getD, ht2]]
    exact .lit _
theorem FrAt.ev {fr : Fr} {a : Act} (h : FrAt base J st μ σ w fr a.tmps) (x : Operand) : At base J st μ σ w (fr.ev x) (a.eval x) := by
  cases x with
  | const v => exact .ofV v
  | global g => exact .lit _
  | func f => exact .lit _
  | tmp t => exact h.tmp t
theorem FrAt.put {fr : Fr} {a : Act} (h : FrAt base J st μ σ w fr a.tmps) {r : AV} {v : Value} (d : Option Tmp) (hr : At base J st μ σ w r v) : FrAt base J st μ σ w (fr.put d r) (a.put d v).tmps := by
  cases d with
  | none => exact h
  | some d =>
    refine ⟨by simp [Fr.put, Act.put, h.1], fun i b u h1 h2 => ?_⟩
    simp only [Fr.put, Act.put] at h1 h2
    by_cases e : d = i
    · subst e
      have hl := (List.getElem?_eq_some_iff.1 h1).1
      simp only [List.length_set] at hl
      rw [List.getElem?_set_self hl] at h1
      rw [Array.getElem?_setIfInBounds, if_pos rfl, if_pos (by have := h.1; omega)] at h2
      cases h1; cases h2
      exact hr
    · rw [List.getElem?_set_ne e] at h1
      rw [Array.getElem?_setIfInBounds, if_neg e] at h2
      exact h.2 i b u h1 h2
theorem Act.put_defers' (a : Act) (d : Option Tmp) (v : Value) : (a.put d v).defers = a.defers := by cases d <;> rfl
theorem FrAt.le {fr fr' : Fr} {tmps : Array Value} (h : FrAt base J st μ σ w fr tmps) {W : List Nat} (hl : Fr.le W fr fr') : FrAt base J st μ σ w fr' tmps := by
  refine ⟨hl.1.symm.trans h.1, fun i b v h1 h2 => ?_⟩
  have hi := (List.getElem?_eq_some_iff.1 h1).1
  have h3 : fr[i]? = some (fr[i]'(by have := hl.1; omega)) := List.getElem?_eq_getElem _
  have h4 := h.2 i _ v h3 h2
  rcases hl.2 i _ b h3 h1 with e | ⟨_, e | e | e⟩
  · rw [e]; exact h4
  · rw [e]; exact h4
  · rw [e]; exact .top v
  · rw [e]; exact h4.strip

/-- what stands behind a piece of code -/
def Rel (base : Nat) (J : Nat → Nat → Prop) (w0 : World) (st : St) (μ : Nat → Nat) (σ : Nat → Tkt) (w : World) (K : Fr → St → Prop) (a' : Act) (w' : World) : Prop :=
  ∃ fr' st' μ' σ', K fr' st' ∧ Ok base J w0 st' μ' σ' w' ∧ Ext base J st μ σ w st' μ' σ' w' ∧ FrAt base J st' μ' σ' w' fr' a'.tmps ∧ a'.defers = []
theorem Rel.le {W : List Nat} {K : Fr → St → Prop} {a : Act} {w'' : World} (h : Rel base J w0 st μ σ w (fun fr' st' => ∃ fr0, Fr.le W fr' fr0 ∧ K fr0 st') a w'') : Rel base J w0 st μ σ w K a w'' := by
  obtain ⟨fr', st'', μ'', σ'', ⟨fr0, h0, h1⟩, h2, h3, h4, h5⟩ := h
  exact ⟨fr0, st'', μ'', σ'', h1, h2, h3, h4.le h0, h5⟩
theorem Rel.ext {st' : St} {μ' : Nat → Nat} {σ' : Nat → Tkt} {K : Fr → St → Prop} {a : Act} {w'' : World} (x : Ext base J st μ σ w st' μ' σ' w') (h : Rel base J w0 st' μ' σ' w' K a w'') : Rel base J w0 st μ σ w K a w'' := by
  obtain ⟨fr', st'', μ'', σ'', h1, h2, h3, h4, h5⟩ := h
  exact ⟨fr', st'', μ'', σ'', h1, h2, x.trans h3, h4, h5⟩

theorem guard0_sound {ops : Array Oper} {g : Option (Nat × Bool)} {fr : Fr} {tmps : Array Value} {A B : Prop} (hf : FrAt base J st μ σ w fr tmps) (o : Oper) (ho : o.guard = g) (h : guard0 ops g fr A B) :
    (Region.wanted o (yielded ops tmps) = true ∧ A) ∨ (Region.wanted o (yielded ops tmps) = false ∧ B) := by
  unfold Region.wanted
  rw [ho]
  unfold guard0 at h
  split at h
  · exact .inl ⟨rfl, h⟩
  · rename_i j want
    split at h
    · exact h.elim
    · rename_i d hd
      have key : ∀ u, fr[d]? = some (.lit u) → tmps[d]? = some u := fun u hu => by
        have hl := (List.getElem?_eq_some_iff.1 hu).1
        have h2 : tmps[d]? = some (tmps[d]'(by have := hf.1; omega)) := Array.getElem?_eq_getElem _
        have := (hf.2 d _ _ hu h2).of_lit
        rw [h2, this]
      split at h
      · rename_i b hb
        have h2 := key _ hb
        have hy : yielded ops tmps j = some b := by simp [yielded, hd, h2]
        simp only [hy]
        cases want <;> cases b <;> first | exact .inl ⟨rfl, h⟩ | exact .inr ⟨rfl, h⟩
      · rename_i us hb
        have h2 := key _ hb
        have hy : yielded ops tmps j = none := by simp [yielded, hd, h2]
        simp only [hy]
        exact .inr ⟨by cases want <;> rfl, h⟩
      · exact h.elim

theorem vcOper_sound (hT : T.Ok P) {ops : Array Oper} {o : Oper} {fr : Fr} {a : Act} {K : Fr → St → Prop} {Kc : Act → World → Prop} {Q : Exit → Act → World → Prop} (h : Ok base J w0 st μ σ w) (hf : FrAt base J st μ σ w fr a.tmps) (hdf : a.defers = [])
    (hk : ∀ a' w', Rel base J w0 st μ σ w K a' w' → Kc a' w') (hv : vcOper P T ops o fr st K) :
    if Region.wanted o (yielded ops a.tmps) then o.wp P a w Kc Q ∨ (o.asks P a w ∧ LetsOut Q) else Kc (a.put o.dst undef) w := by
  rcases guard0_sound hf o rfl (vcOper_iff.1 hv) with ⟨hw, hA⟩ | ⟨hw, hB⟩
  · rw [if_pos hw]
    refine .inl (wp_of_fin (vcOp_sound hT h hf.ev hA) fun v w' hn => hk _ _ ?_)
    obtain ⟨r, st', μ', σ', q1, q2, q3, q4⟩ := hn
    exact ⟨_, st', μ', σ', q1, q2, q3, (hf.ext q3).put o.dst q4, by rw [Act.put_defers', hdf]⟩
  · rw [if_neg (by rw [hw]; decide)]
    exact hk _ _ ⟨_, st, μ, σ, hB, h, .refl, hf.put o.dst (.lit _), by rw [Act.put_defers', hdf]⟩

theorem vcOps_sound (hT : T.Ok P) {ops : Array Oper} {Q : Exit → Act → World → Prop} {K : Fr → St → Prop} : ∀ (l : List Oper) {st : St} {μ : Nat → Nat} {σ : Nat → Tkt} {w : World} {fr : Fr} {a : Act}, Ok base J w0 st μ σ w → FrAt base J st μ σ w fr a.tmps → a.defers = [] →
    (∀ a' w', Rel base J w0 st μ σ w K a' w' → Q .normal a' w') → vcOps P T ops l fr st K → wpList P ops Q l a w
  | [], st, μ, σ, w, fr, a, h, hf, hd, hk, hv => hk _ _ ⟨fr, st, μ, σ, hv, h, .refl, hf, hd⟩
  | o :: l, st, μ, σ, w, fr, a, h, hf, hd, hk, hv => by
    unfold wpList
    refine vcOper_sound hT h hf hd (fun a' w' hr => ?_) hv
    obtain ⟨fr', st', μ', σ', q1, q2, q3, q4, q5⟩ := hr
    exact vcOps_sound hT l q2 q4 q5 (fun a'' w'' hr => hk _ _ (hr.ext q3)) q1

theorem vcAny_sound (hT : T.Ok P) {ops : Array Oper} {Q : Exit → Act → World → Prop} {K : Fr → St → Prop} : ∀ (n : Nat) (listed : Array Bool) {st : St} {μ : Nat → Nat} {σ : Nat → Tkt} {w : World} {fr : Fr} {a : Act}, Ok base J w0 st μ σ w → FrAt base J st μ σ w fr a.tmps → a.defers = [] →
    (∀ a' w', Rel base J w0 st μ σ w K a' w' → Q .normal a' w') → vcAny P T ops K n listed fr st → wpAny P .any ops Q n listed a w
  | 0, listed, st, μ, σ, w, fr, a, h, hf, hd, hk, hv => by
    unfold vcAny at hv
    split at hv
    · rename_i he
      exact ⟨he, hk _ _ ⟨fr, st, μ, σ, hv, h, .refl, hf, hd⟩⟩
    · exact hv.elim
  | n + 1, listed, st, μ, σ, w, fr, a, h, hf, hd, hk, hv => by
    unfold vcAny at hv
    split at hv
    · rename_i he
      refine ⟨fun _ => hk _ _ ⟨fr, st, μ, σ, hv, h, .refl, hf, hd⟩, fun i hi => ?_⟩
      rw [he] at hi
      cases hi
    · rename_i i0 is he
      refine ⟨(fun h0 => by rw [he] at h0; cases h0), fun i hi => ?_⟩
      rw [he] at hi
      obtain ⟨o, ho, hv⟩ := hv i hi
      unfold wpOp
      simp only [ho]
      refine vcOper_sound hT h hf hd (fun a' w' hr => ?_) hv
      obtain ⟨fr', st', μ', σ', q1, q2, q3, q4, q5⟩ := hr
      exact vcAny_sound hT n _ q2 q4 q5 (fun a'' w'' hr => hk _ _ (hr.ext q3)) q1

theorem Rel.mono {K K' : Fr → St → Prop} {a : Act} (hk : ∀ fr st, K fr st → K' fr st) (h : Rel base J w0 st μ σ w K a w') : Rel base J w0 st μ σ w K' a w' := by
  obtain ⟨fr', st', μ', σ', h1, h2⟩ := h
  exact ⟨fr', st', μ', σ', hk _ _ h1, h2⟩

theorem vc_sound (hT : T.Ok P) (hm : P.follows .mixedOrders = true) : ∀ (c : Code) (Q : Exit → Fr → St → Prop) (fr : Fr) (st : St) (μ : Nat → Nat) (σ : Nat → Tkt) (a : Act) (w : World),
    vc P T c Q fr st → Ok base J w0 st μ σ w → FrAt base J st μ σ w fr a.tmps → a.defers = [] → c.wp P (fun e a' w' => Rel base J w0 st μ σ w (Q e) a' w') a w := by
  intro c
  induction c with
  | skip => intro Q fr st μ σ a w hv h hf hd; exact wp_skip ⟨fr, st, μ, σ, hv, h, .refl, hf, hd⟩
  | label l => intro Q fr st μ σ a w hv h hf hd; exact wp_label ⟨fr, st, μ, σ, hv, h, .refl, hf, hd⟩
  | exit id => intro Q fr st μ σ a w hv h hf hd; exact wp_exit ⟨fr, st, μ, σ, hv, h, .refl, hf, hd⟩
  | ret => intro Q fr st μ σ a w hv h hf hd; exact wp_ret ⟨fr, st, μ, σ, hv, h, .refl, hf, hd⟩
  | region id ops draw =>
    intro Q fr st μ σ a w hv h hf hd
    cases draw with
    | false => exact wp_region_list (vcOps_sound hT _ h hf hd (fun _ _ hr => hr) hv)
    | true =>
      have hany : vcAny P T ops (fun fr' st' => ∃ fr0, Fr.le (dsts ops) fr' fr0 ∧ Q .normal fr0 st') ops.size (Array.replicate ops.size false) fr st := draw_any hv
      obtain ⟨ok', ext'⟩ := h.step (below_drew w)
      refine wp_region_any hm ?_
      exact vcAny_sound hT _ _ ok' (hf.ext ext') hd (fun _ _ hr => by
        obtain ⟨fr1, st1, μ1, σ1, ⟨fr0, q0, q1⟩, q2, q3, q4, q5⟩ := hr
        exact ⟨fr0, st1, μ1, σ1, q1, q2, ext'.trans q3, q4.le q0, q5⟩) hany
  | seq x y ihx ihy =>
    intro Q fr st μ σ a w hv h hf hd
    refine wp_seq (wp_mono (ihx _ fr st μ σ a w hv h hf hd) fun e a' w' hr => ?_)
    cases e with
    | normal =>
      obtain ⟨fr', st', μ', σ', q1, q2, q3, q4, q5⟩ := hr
      exact wp_mono (ihy _ fr' st' μ' σ' a' w' q1 q2 q4 q5) fun e a'' w'' hr => hr.ext q3
    | _ => exact hr
  | cond c x y ihx ihy =>
    intro Q fr st μ σ a w hv h hf hd
    simp only [vc] at hv
    split at hv
    · rename_i t he
      have hc := hf.ev c
      rw [he] at hc
      have hc := hc.of_lit
      cases t
      · exact wp_cond_false hc (ihy _ fr st μ σ a w hv h hf hd)
      · exact wp_cond_true hc (ihx _ fr st μ σ a w hv h hf hd)
    · exact hv.elim
  | block id b ih =>
    intro Q fr st μ σ a w hv h hf hd
    refine wp_block (wp_mono (ih _ fr st μ σ a w hv h hf hd) fun e a' w' hr => ?_)
    cases e with
    | exit id' =>
      show (if id' = id then Rel base J w0 st μ σ w (Q .normal) a' w' else Rel base J w0 st μ σ w (Q (.exit id')) a' w')
      by_cases e : id' = id
      · rw [if_pos e]
        exact hr.mono fun fr st hq => by simpa [blockQ, e] using hq
      · rw [if_neg e]
        exact hr.mono fun fr st hq => by simpa [blockQ, e] using hq
    | _ => exact hr
  | loop b ih =>
    intro Q fr st μ σ a w hv h hf hd
    obtain ⟨I, ⟨g0, fr0, hle, hI⟩, hround⟩ := hv
    intro bf k cs
    have key : ∀ g (fr : Fr) (st' : St) (μ' : Nat → Nat) (σ' : Nat → Tkt) (a : Act) (w' : World), I g fr st' → Ok base J w0 st' μ' σ' w' → Ext base J st μ σ w st' μ' σ' w' → FrAt base J st' μ' σ' w' fr a.tmps → a.defers = [] →
        ∃ e a' w'', Rel base J w0 st μ σ w (Q e) a' w'' ∧ Arrives P (lone (bf.at a (.code b :: .inLoop b :: k)) cs w') bf k cs e a' w'' := by
      intro g
      induction g using Nat.strongRecOn with
      | _ g ihg =>
        intro fr st' μ' σ' a w' hI h' x' hf' hd'
        obtain ⟨e, a1, w1, hq, harr⟩ := ih _ fr st' μ' σ' a w' (hround g fr st' hI) h' hf' hd' bf (.inLoop b :: k) cs
        cases e with
        | normal =>
          obtain ⟨fr1, st1, μ1, σ1, ⟨g', fr2, hlt, hle2, hI2⟩, q2, q3, q4, q5⟩ := hq
          obtain ⟨e2, a2, w2, hq2, harr2⟩ := ihg g' hlt fr2 st1 μ1 σ1 a1 w1 hI2 q2 (x'.trans q3) (q4.le hle2) q5
          exact ⟨e2, a2, w2, hq2, .of_steps (Steps.trans harr (.one step_inLoop)) harr2⟩
        | exit id => exact ⟨_, a1, w1, Rel.ext x' (Rel.le hq), .pass (x := .inLoop b) rfl (fun _ _ => .inl (by simp)) harr⟩
        | goto l => exact ⟨_, a1, w1, Rel.ext x' (Rel.le hq), .pass (x := .inLoop b) rfl (fun _ _ => .inl (by simp)) harr⟩
        | ret => exact ⟨_, a1, w1, Rel.ext x' (Rel.le hq), .pass (x := .inLoop b) rfl (fun _ _ => .inl (by simp)) harr⟩
        | panic ch => exact ⟨_, a1, w1, Rel.ext x' (Rel.le hq), .pass (x := .inLoop b) rfl (fun _ _ => .inl (by simp)) harr⟩
        | outgrown => exact ⟨_, a1, w1, Rel.ext x' (Rel.le hq), .pass (x := .inLoop b) rfl (fun _ _ => .inl (by simp)) harr⟩
    obtain ⟨e, a', w', hq, harr⟩ := key g0 fr0 st μ σ a w hI h .refl (hf.le hle) hd
    exact ⟨e, a', w', hq, .of_steps (.one step_loop) harr⟩
  | _ => intro Q fr st μ σ a w hv; exact hv.elim
end
end Go.Proofs.YtfhodppaelfcfaaDoor
