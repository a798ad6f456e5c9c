/- Calls that may end in a panic: the walk of the functions that make them. No statement of its own. -/
import Derived.Test.YthnmbfiandpedaaGreatDoorHVz
set_option linter.unusedSimpArgs false
set_option linter.unusedVariables false
set_option maxRecDepth 100000
namespace Go.Proofs.YthnmbfiandpedaaGreatDoor
open Go.RowKit
section
variable (P : Program) (T : Tab) (bv : Bool) (esc : Nat → Bool)
/-- a call that may end in a panic -/
def ACallsX (f : FuncId) (args : List AV) (st : St) (R : AV → St → Prop) (X : List PanicEntry → St → Prop) : Prop :=
  (∀ (zs : Array Value) (w : World), (callFunc f zs).run P w = .ok (.enter f zs) w) ∧ ∀ (base : Nat) (J : Nat → Nat → Prop) (w0 : World) (μ : Nat → Nat) (σ : Nat → Tkt) (w : World) (vs : Array Value),
    Ok base J w0 st μ σ w → args.length = vs.size → (∀ (j : Nat) a v, args[j]? = some a → vs[j]? = some v → At base J st μ σ w a v) →
    Calls P f vs w fun e w' => (∃ v r st' μ' σ', e = .returned v ∧ R r st' ∧ Ok base J w0 st' μ' σ' w' ∧ Ext base J st μ σ w st' μ' σ' w' ∧ At base J st' μ' σ' w' r v) ∨
      ∃ ch st' μ' σ', e = .panicked ch ∧ X ch st' ∧ Ok base J w0 st' μ' σ' w' ∧ Ext base J st μ σ w st' μ' σ' w'

inductive XCall (f : FuncId) (args : List AV) (st : St) (K : AV → St → Prop) (X : List PanicEntry → St → Prop) : Prop
  | p {r : AV} (hd : args.all AV.datA = true) (h : APure P f (args.map AV.strip) r []) (hk : K r st) : XCall f args st K X
  | w {args' : List AV} {r : AV} (hd : args.all AV.datG = true) (hw : ArgsW args args') (h : APure P f args' r []) (hk : K r st) : XCall f args st K X
  | t {args' : List AV} {r : AV} {ns : List Nat} (hd : args.all AV.datG = true) (hw : ArgsW args args') (h : APure P f args' r ns) (hk : K (r.shiftR st.tk.length) ⟨st.heap, st.tk ++ ns⟩) : XCall f args st K X
  | s (h : ACalls P f args st K) : XCall f args st K X
  | x (h : ACallsX P f args st K X) : XCall f args st K X

def unlits : List AV → Option (List Value)
  | [] => some []
  | .lit v :: r => match unlits r with
    | some vs => some (v :: vs)
    | none => none
  | _ => none

/-- a row that is not nil -/
def rowSz : AV → Option Nat
  | .sl .no _ [] => none
  | .sl _ sz _ => some sz
  | .hs _ _ _ _ sz => some sz
  | _ => none
def vcOpY (o : Op) (ρ : Operand → AV) (st : St) (K : AV → St → Prop) (X : List PanicEntry → St → Prop) : Prop :=
  match o with
  | .call c => match c.callee with
    | .value f => match ρ f with
      | .lit (.func (.func k) us vs) => XCall P k (us.toList.map AV.ofV ++ (c.args.toList.map ρ) ++ vs.toList.map AV.ofV) st K X
      | .fn (.func k) us vs => XCall P k (us ++ (c.args.toList.map ρ) ++ vs) st K X
      | _ => False
    | .builtin b => vcOp P T (.call { c with callee := .builtin b }) ρ st K
    | _ => False
  | .buildSlice t len parts => match bv with
    | false => vcOp P T (.buildSlice t len parts) ρ st K
    | true => match (T t).map TI.desc with
      | some (.slice e) => match T e with
        | none => False
        | some i => match decide (len * i.size ≤ 16777216) && decide (0 < i.size) && decide (i.zero.length = i.size) && (i.zero.map AV.lit).all AV.flat with
          | true => match fillE i.size (parts.toList.map fun p => (p.1, ρ p.2)) (List.replicate len (i.zero.map AV.lit)) with
            | some es => K (.hs st.heap.length 0 len len i.size) ⟨st.heap ++ [es.flatten], st.tk⟩
            | none => match fillR i.size (parts.toList.map fun p => (p.1, ρ p.2)) (zerosL i.zero len) with
              | some cs => match cs.all AV.cell with
                | true => K (.hs st.heap.length 0 len len i.size) ⟨st.heap ++ [cs], st.tk⟩
                | false => False
              | none => False
          | false => False
      | _ => False
  | .slice t x lo hi (some m) => match (T t).map TI.desc with
    | some (.slice e) => match (T e).map TI.size with
      | some _ => match ρ x with
        | .lit (.slice none 0 0) => bndA (hi.map ρ) 0 fun h => bndA (lo.map ρ) 0 fun l => bndA (some (ρ m)) 0 fun c => hi.isSome = true ∧ l = 0 ∧ h = 0 ∧ c = 0 ∧ K .nilS st
        | x => match rowSz x with
          | some sz => bndA (hi.map ρ) 0 fun h => bndA (lo.map ρ) 0 fun l => bndA (some (ρ m)) 0 fun c => hi.isSome = true ∧ l = 0 ∧ h = 0 ∧ c = 0 ∧ K (.sl .tight sz []) st
          | none => False
      | none => False
    | _ => False
  | .panic x => match ρ x with
    | .lit (.iface t v) => X [{ v := .iface t v, recovered := false }] st
    | _ => False
  | .makeInterface t x => match (T t).map TI.desc with
    | some (.struct _) => match ρ x with
      | .agg cs => match unlits cs with
        | some vs => K (.lit (.iface t (.agg vs.toArray))) st
        | none => False
      | _ => False
    | _ => False
  | o => vcOp P T o ρ st K

def vcOperY (ops : Array Oper) (o : Oper) (fr : Fr) (st : St) (K : Fr → St → Prop) (X : List PanicEntry → Fr → St → Prop) : Prop :=
  guardA ops o.guard fr (fun fr => vcOpY P T bv o.op fr.ev st (fun v st' => fr.putK o.dst v fun fr' => K fr' st') (fun ch st' => X ch fr st')) (fun fr => fr.putK o.dst .un fun fr' => K fr' st)
def vcOpsY (ops : Array Oper) : List Oper → Fr → St → (Fr → St → Prop) → (List PanicEntry → Fr → St → Prop) → Prop
  | [], fr, st, K, _ => K fr st
  | o :: r, fr, st, K, X => vcOperY P T bv ops o fr st (fun fr' st' => vcOpsY ops r fr' st' K X) X

/-- a piece of code, proved by hand -/
def Sem1 (c : Code) (Q : Exit → Fr → St → Prop) (fr : Fr) (st : St) : Prop :=
  ∀ (base : Nat) (J : Nat → Nat → Prop) (w0 : World) (μ : Nat → Nat) (σ : Nat → Tkt) (a : Act) (w : World) (D : List Deferred), Ok base J w0 st μ σ w → FrAt base J st μ σ w fr a.tmps → a.defers = D → c.wp P (fun e a' w' => Rel base J w0 st μ σ w (Q e) a' w' D) a w
def vcY : Code → (Exit → Fr → St → Prop) → Fr → St → Prop
  | .skip, Q, fr, st => Q .normal fr st
  | .label _, Q, fr, st => Q .normal fr st
  | .region id ops draw, Q, fr, st => match esc id with
    | true => Sem1 P (.region id ops draw) Q fr st
    | false => match draw with
      | false => vcOpsY P T bv ops ops.toList fr st (fun fr' st' => Q .normal fr' st') (fun ch fr' st' => Q (.panic ch) fr' st')
      | true => VDraw P T ops (fun fr' st' => Q .normal fr' st') fr st
  | .seq a b, Q, fr, st => vcY a (seqQ (fun fr' st' => vcY b Q fr' st') Q) fr st
  | .cond c x y, Q, fr, st => match fr.ev c with | .lit (.bool t) => cnd t (vcY x Q fr st) (vcY y Q fr st) | _ => False
  | .block id b, Q, fr, st => vcY b (blockQ id Q) fr st
  | .loop b, Q, fr, st => VLoop (fun Q' fr' st' => vcY b Q' fr' st') (writes b) Q fr st
  | .exit id, Q, fr, st => Q (.exit id) fr st
  | .ret, Q, fr, st => Q .ret fr st
  | _, _, _, _ => False
def retX (fn : Func) (R : AV → St → Prop) (X : List PanicEntry → St → Prop) : Exit → Fr → St → Prop
  | .normal, fr, st => resAll T fn.results.toList fr st fun vs => match vs with | [v] => R v st | vs => R (.tup vs) st
  | .ret, fr, st => resAll T fn.results.toList fr st fun vs => match vs with | [v] => R v st | vs => R (.tup vs) st
  | .panic ch, _, st => X ch st
  | _, _, _ => False
end

section
variable {base : Nat} {J : Nat → Nat → Prop} {w0 : World} {st : St} {μ : Nat → Nat} {σ : Nat → Tkt} {w w' : World} {P : Program} {T : Tab} {bv : Bool} {esc : Nat → Bool} {K : AV → St → Prop} {X : List PanicEntry → St → Prop}

def FinX (P : Program) (N : Value → World → Prop) (Z : List PanicEntry → World → Prop) : Result Next → Prop
  | .ok (.value v) w' => N v w'
  | .ok .skip w' => N undef w'
  | .ok (.enter f args) w' => Calls P f args w' fun e w'' => (∃ v, e = .returned v ∧ N v w'') ∨ ∃ ch, e = .panicked ch ∧ Z ch w''
  | .halt (.panic v) w' => Z [{ v, recovered := false }] w'
  | _ => False
theorem Fin.x {N : Value → World → Prop} {Z : List PanicEntry → World → Prop} {r : Result Next} (h : Fin P N r) : FinX P N Z r := by
  cases r with
  | halt x w' => exact h.elim
  | ok n w' =>
    cases n <;> simp only [Fin] at h <;> simp only [FinX]
    case value v => exact h
    case skip => exact h
    case enter f args => exact h.mono fun e w'' hv => .inl hv
theorem wp_of_finX {o : Oper} {a : Act} {next : Act → World → Prop} {Q : Exit → Act → World → Prop} {N : Value → World → Prop} {Z : List PanicEntry → World → Prop}
    (h : FinX P N Z ((execOp a.eval o).run P w)) (hn : ∀ v w', N v w' → next (a.put o.dst v) w') (hz : ∀ ch w', Z ch w' → Q (.panic ch) a w') : o.wp P a w next Q := by
  unfold Oper.wp
  generalize (execOp a.eval o).run P w = r at h
  cases r with
  | halt x w' =>
    cases x <;> simp only [FinX] at h <;> simp only [Oper.upon]
    exact hz _ _ h
  | ok n w' =>
    cases n <;> simp only [FinX] at h <;> simp only [Oper.upon]
    case value v => exact hn _ _ h
    case skip => exact hn _ _ h
    case enter f args =>
      refine h.mono fun e w'' hv => ?_
      rcases hv with ⟨v, he, hv⟩ | ⟨ch, he, hv⟩
      · subst he; exact hn _ _ hv
      · subst he; exact hz _ _ hv
/-- where a panic leaves -/
def XX (base : Nat) (J : Nat → Nat → Prop) (w0 : World) (st : St) (μ : Nat → Nat) (σ : Nat → Tkt) (w : World) (X : List PanicEntry → St → Prop) (ch : List PanicEntry) (w' : World) : Prop :=
  ∃ st' μ' σ', X ch st' ∧ Ok base J w0 st' μ' σ' w' ∧ Ext base J st μ σ w st' μ' σ' w'

theorem XCall.split {f : FuncId} {args : List AV} (h : XCall P f args st K X) : VCall P f args st K ∨ ACallsX P f args st K X := by
  rcases h with ⟨h0, h1, h2⟩ | ⟨h0, h3, h1, h2⟩ | ⟨h0, h3, h1, h2⟩ | h1 | h1
  · exact .inl (.p h0 h1 h2)
  · exact .inl (.w h0 h3 h1 h2)
  · exact .inl (.t h0 h3 h1 h2)
  · exact .inl (.s h1)
  · exact .inr h1

theorem unlits_at {I : Nat → Nat → Prop} {hl : Nat} {tk : List Nat} : ∀ {cs : List AV} {vs : List Value}, unlits cs = some vs → ∀ {us : List Value}, cs.length = us.length → (∀ (j : Nat) a u, cs[j]? = some a → us[j]? = some u → Rp w I hl μ tk σ a u) → us = vs
  | [], vs, h, us, hl, _ => by
    simp only [unlits, Option.some.injEq] at h
    subst h
    exact List.eq_nil_of_length_eq_zero hl.symm
  | a :: cs, vs, h, us, hl, hr => by
    cases us with
    | nil => simp at hl
    | cons u us =>
      cases a with
      | lit v =>
        simp only [unlits] at h
        split at h
        · rename_i vs' hvs
          simp only [Option.some.injEq] at h
          subst h
          have h0 := (hr 0 _ u rfl rfl).of_lit
          have e1 := unlits_at (us := us) hvs (by simpa using hl) (fun j a u ha hu => hr (j + 1) a u (by simpa using ha) (by simpa using hu))
          rw [e1, h0]
        · cases h
      | _ => simp [unlits] at h

theorem fillR_nil {sz : Nat} {us' : Array Value} {qs : List (Nat × Value)} (h : Instr.fill (fun i => some (i * sz, sz)) #[] qs = some us') : us' = #[] := by
  have size : ∀ (qs : List (Nat × Value)) (us us' : Array Value), Instr.fill (fun i => some (i * sz, sz)) us qs = some us' → us'.size = us.size := by
    intro qs
    induction qs with
    | nil => intro us us' h; simp only [Instr.fill, Option.some.injEq] at h; rw [h]
    | cons q qs ih =>
      intro us us' h
      obtain ⟨i, u⟩ := q
      simp only [Instr.fill] at h
      split at h
      · cases h
      · have fs : ∀ (l : List (Value × Nat)) (us : Array Value) (f : Nat → Nat), (l.foldl (fun (cs : Array Value) (x : Value × Nat) => cs.setIfInBounds (f x.2) x.1) us).size = us.size := by
          intro l
          induction l with
          | nil => intro us f; rfl
          | cons x l ih => intro us f; rw [List.foldl_cons, ih]; simp
        have := ih _ _ h
        rw [this]
        rw [← Array.foldl_toList]
        exact fs _ us fun j => i * sz + j
  exact Array.eq_empty_of_size_eq_zero (by rw [size qs #[] us' h]; rfl)
theorem buildVar_sound (hT : T.Ok P) (h : Ok base J w0 st μ σ w) {ρ : Operand → AV} {ρc : Operand → Value} (hρ : ∀ x, At base J st μ σ w (ρ x) (ρc x)) {o : Oper} {t : TypeId} {len : Nat} {parts : Array (Nat × Operand)} (ho : o.op = .buildSlice t len parts)
    (hv : vcOpY P T true (.buildSlice t len parts) ρ st K X) : Fin P (NN base J w0 st μ σ w K) ((execOp ρc o).run P w) := by
  simp only [vcOpY] at hv
  split at hv
  · rename_i e hd
    have hus := hT.und hd
    split at hv
    · exact hv.elim
    · rename_i i hi
      obtain ⟨z, hz, hzc⟩ := hT.zeroV hi w
      split at hv
      · rename_i hck
        simp only [Bool.and_eq_true] at hck
        obtain ⟨⟨⟨k1, k2⟩, k3⟩, k4⟩ := hck
        have k1 := of_decide_eq_true k1
        have k2 := of_decide_eq_true k2
        have k3 := of_decide_eq_true k3
        split at hv
        · rename_i es hfill
          have hzsz : z.cells.size = i.size := by rw [hzc]; simpa using k3
          have hrow0 : Row base J st μ σ w i.size (List.replicate len (i.zero.map AV.lit)) ((Array.range (len * i.size)).map (z.cells[· % z.cells.size]!)).toList := by
            refine ⟨by simp, fun k e he => ?_, fun k e j a he ha => ?_⟩
            · rw [List.getElem?_replicate] at he
              split at he
              · cases he
                exact ⟨by simpa using k3, k4⟩
              · cases he
            · rw [List.getElem?_replicate] at he
              split at he
              · rename_i hk
                cases he
                have hj := (List.getElem?_eq_some_iff.1 ha).1
                simp at hj
                simp only [List.getElem?_map, Option.map_eq_some_iff] at ha
                obtain ⟨y, hy, rfl⟩ := ha
                refine ⟨y, ?_, .lit _⟩
                have hlt := lt_mul hk (show j < i.size by omega)
                have hmod := (div_mul (k := k) (show j < i.size by omega)).2
                have hjz : j < z.cells.size := by omega
                have hget : z.cells[j]! = y := by
                  rw [getElem!_pos z.cells j hjz]
                  have : z.cells[j]? = some y := by rw [hzc]; simpa using hy
                  rw [Array.getElem?_eq_getElem hjz] at this
                  cases this; rfl
                simp [hlt, hzsz, hmod, hget]
              · cases he
          obtain ⟨r0, us', r1, r2⟩ := fillE_sound (base := base) (J := J) (st := st) (μ := μ) (σ := σ) (w := w) k2 (parts.toList.map fun p => (p.1, ρ p.2)) (parts.toList.map fun p => (p.1, ρc p.2)) _ es _ (by simp)
            (fun j p q hp hq => by
              simp only [List.getElem?_map, Option.map_eq_some_iff] at hp hq
              obtain ⟨y, hy, rfl⟩ := hp
              obtain ⟨y', hy', rfl⟩ := hq
              rw [hy] at hy'
              cases hy'
              exact ⟨rfl, hρ _⟩) hrow0 hfill
          have hel : es.length = len := by rw [r0]; simp
          have hfl : es.flatten.length = es.length * i.size := flat_len fun k e he => (r2.el k e he).1
          obtain ⟨ok', ext'⟩ := h.newVar es.flatten us' e (by rw [hfl, ← r2.len, Array.length_toList]) (fun j a u ha hu => by
            have hj := (List.getElem?_eq_some_iff.1 ha).1
            rw [hfl] at hj
            obtain ⟨q1, q2, q3⟩ := split_mul hj
            have he : es[j / i.size]? = some es[j / i.size] := List.getElem?_eq_getElem q1
            have hlen := (r2.el _ _ he).1
            have hx : es[j / i.size][j % i.size]? = some es[j / i.size][j % i.size] := List.getElem?_eq_getElem (by omega)
            have hg := flat_get (fun k e he => (r2.el k e he).1) (j / i.size) (j % i.size) _ he q2
            rw [q3, ha] at hg
            have hax : es[j / i.size][j % i.size]? = some a := hg.symm
            obtain ⟨u', h1, h2⟩ := r2.at' _ _ _ a he hax
            rw [q3, Array.getElem?_toList, hu] at h1
            cases h1
            exact ⟨AV.cell_of_flat (List.all_eq_true.1 (r2.el _ _ he).2 a (List.mem_of_getElem? hax)), rfl, h2⟩)
          have n1 : ¬ (len * i.size > 2 ^ 24) := by omega
          have hrun : (execOp ρc o).run P w = .ok (.value (.slice (some ⟨w.heap.size, 0, none⟩) len len)) (w.alloc (.cells us' e)) := by
            by_cases hl0 : len = 0
            · subst hl0
              have hu0 : us'.toList = [] := List.eq_nil_of_length_eq_zero (by rw [r2.len, hel]; simp)
              have e0 : ∀ f : Nat → Value, (Array.range 0).map f = #[] := fun f => by simp [Array.range]
              simp only [Nat.zero_mul, e0] at r1
              simp [execOp, ho, Instr.buildSlice, run_underlying hus, hT.size hi, newRow, e0, r1]
            · have hne : ¬ (len * i.size = 0) := by
                rw [Nat.mul_eq_zero]
                omega
              simp only [execOp, ho, Instr.buildSlice, Sem.run_bind, run_underlying hus, Result.andThen_ok, hT.size hi, if_neg n1, if_neg hne, hz, Sem.run_pure]
              simp [r1, newRow]
          rw [hrun]
          have hmx : len ≤ maxLen := by
            have h9 : len * 1 ≤ len * i.size := Nat.mul_le_mul_left _ k2
            unfold maxLen
            omega
          refine ⟨_, _, _, _, hv, ok', ext', ?_⟩
          have := Rp.hs (w := w.alloc (.cells us' e)) (I := Im base J ⟨st.heap ++ [es.flatten], st.tk⟩ (upd μ st.heap.length w.heap.size) σ) (hl := st.heap.length + 1) (μ := upd μ st.heap.length w.heap.size) (tk := st.tk) (σ := σ) st.heap.length 0 len len i.size (by omega) (Nat.le_refl _) hmx
          rw [upd_same] at this
          simpa [At] using this
        · split at hv
          · rename_i cs hfill
            split at hv
            · rename_i hcell
              have hzsz : z.cells.size = i.size := by rw [hzc]; simpa using k3
              obtain ⟨us', r1, r2, r3⟩ := fillR_sound (base := base) (J := J) (st := st) (μ := μ) (σ := σ) (w := w) (parts.toList.map fun p => (p.1, ρ p.2)) (parts.toList.map fun p => (p.1, ρc p.2)) (zerosL i.zero len) cs ((Array.range (len * i.size)).map (z.cells[· % z.cells.size]!)) (by simp)
                (fun j p q hp hq => by
                  simp only [List.getElem?_map, Option.map_eq_some_iff] at hp hq
                  obtain ⟨y, hy, rfl⟩ := hp
                  obtain ⟨y', hy', rfl⟩ := hq
                  rw [hy] at hy'
                  cases hy'
                  exact ⟨rfl, hρ _⟩) (by simp [zerosL, k3]) (fun j a u ha hu => by
                  simp only [zerosL, List.getElem?_map, Option.map_eq_some_iff] at ha
                  obtain ⟨q, hq, rfl⟩ := ha
                  obtain ⟨hq1, hq2⟩ := List.getElem?_eq_some_iff.1 hq
                  simp at hq1 hq2
                  subst hq2
                  rw [Array.getElem?_map] at hu
                  have hlt : j < len * i.size := by rw [← k3]; exact hq1
                  simp [hlt] at hu
                  have hjm : j % z.cells.size < z.cells.size := Nat.mod_lt _ (by omega)
                  rw [getElem!_pos z.cells _ hjm] at hu
                  have e9 : i.zero.getD (j % i.zero.length) undef = u := by
                    rw [← hu]
                    simp only [hzc, List.getElem_toArray, List.getD_eq_getElem?_getD]
                    rw [k3]
                    have h8 : j % i.size < i.zero.length := by rw [k3]; exact Nat.mod_lt _ k2
                    simp only [List.size_toArray, k3]
                    rw [List.getElem?_eq_getElem h8]
                    rfl
                  rw [e9]
                  exact .lit _) hfill
              obtain ⟨ok', ext'⟩ := h.newVar cs us' e r2 (fun j a u ha hu => ⟨List.all_eq_true.1 hcell a (List.mem_of_getElem? ha), rfl, r3 j a u ha hu⟩)
              have n1 : ¬ (len * i.size > 2 ^ 24) := by omega
              have hrun : (execOp ρc o).run P w = .ok (.value (.slice (some ⟨w.heap.size, 0, none⟩) len len)) (w.alloc (.cells us' e)) := by
                by_cases hl0 : len = 0
                · subst hl0
                  have e0 : ∀ f : Nat → Value, (Array.range 0).map f = #[] := fun f => by simp [Array.range]
                  simp only [Nat.zero_mul, e0] at r1
                  have hu0 : us' = #[] := by
                    have hz0 : zerosL i.zero 0 = [] := by simp [zerosL]
                    exact fillR_nil r1
                  subst hu0
                  simp [execOp, ho, Instr.buildSlice, run_underlying hus, hT.size hi, newRow, e0, r1]
                · have hne : ¬ (len * i.size = 0) := by
                    rw [Nat.mul_eq_zero]
                    omega
                  simp only [execOp, ho, Instr.buildSlice, Sem.run_bind, run_underlying hus, Result.andThen_ok, hT.size hi, if_neg n1, if_neg hne, hz, Sem.run_pure]
                  simp [r1, newRow]
              rw [hrun]
              have hmx : len ≤ maxLen := by
                have h9 : len * 1 ≤ len * i.size := Nat.mul_le_mul_left _ k2
                unfold maxLen
                omega
              refine ⟨_, _, _, _, hv, ok', ext', ?_⟩
              have := Rp.hs (w := w.alloc (.cells us' e)) (I := Im base J ⟨st.heap ++ [cs], st.tk⟩ (upd μ st.heap.length w.heap.size) σ) (hl := st.heap.length + 1) (μ := upd μ st.heap.length w.heap.size) (tk := st.tk) (σ := σ) st.heap.length 0 len len i.size (by omega) (Nat.le_refl _) hmx
              rw [upd_same] at this
              simpa [At] using this
            · exact hv.elim
          · exact hv.elim
      · exact hv.elim
  · exact hv.elim

theorem xcall_run (hT : T.Ok P) (h : Ok base J w0 st μ σ w) {ρ : Operand → AV} {ρc : Operand → Value} (hρ : ∀ x, At base J st μ σ w (ρ x) (ρc x)) {k : FuncId} {args : List AV} {vs : Array Value} (c1 : args.length = vs.size)
    (c2 : ∀ (j : Nat) a v, args[j]? = some a → vs[j]? = some v → At base J st μ σ w a v) (hv : ACallsX P k args st K X) : Calls P k vs w fun e w'' => (∃ v, e = .returned v ∧ NN base J w0 st μ σ w K v w'') ∨ ∃ ch, e = .panicked ch ∧ XX base J w0 st μ σ w X ch w'' := by
  refine (hv.2 base J w0 μ σ w vs h c1 c2).mono fun e w'' hx => ?_
  rcases hx with ⟨v, r, st', μ', σ', q1, q2, q3, q4, q5⟩ | ⟨ch, st', μ', σ', q1, q2, q3, q4⟩
  · exact .inl ⟨v, q1, r, st', μ', σ', q2, q3, q4, q5⟩
  · exact .inr ⟨ch, q1, st', μ', σ', q2, q3, q4⟩

theorem s3_run {ρc : Operand → Value} {lo hi : Option Operand} {m : Operand} {len cap : Nat} (his : hi.isSome = true) (q1 : (hi = none ∧ 0 = 0) ∨ ∃ kk q, hi = some q ∧ ρc q = .int kk ((0 : Nat) : Int))
    (q2 : (lo = none ∧ 0 = 0) ∨ ∃ kk q, lo = some q ∧ ρc q = .int kk ((0 : Nat) : Int)) (q3 : (some m = none ∧ 0 = 0) ∨ ∃ kk q, some m = some q ∧ ρc q = .int kk ((0 : Nat) : Int)) :
    (Instr.sliceBounds true len cap (lo.map ρc) (hi.map ρc) (some (ρc m))).run P w = .ok (0, 0, 0) w := by
  obtain ⟨kh, qh, rfl, eh⟩ : ∃ kk q, hi = some q ∧ ρc q = .int kk ((0 : Nat) : Int) := by
    rcases q1 with ⟨rfl, _⟩ | q1
    · cases his
    · exact q1
  obtain ⟨km, qm, rfl, em⟩ : ∃ kk q, m = q ∧ ρc q = .int kk ((0 : Nat) : Int) := by
    rcases q3 with ⟨q3, _⟩ | ⟨kk, q, q3, q4⟩
    · cases q3
    · cases q3; exact ⟨kk, _, rfl, q4⟩
  rcases q2 with ⟨rfl, _⟩ | ⟨kl, ql, rfl, el⟩ <;> simp [Instr.sliceBounds, Instr.sliceBound, asIntOf, *]

theorem vcOpY_sound (hT : T.Ok P) (h : Ok base J w0 st μ σ w) {ρ : Operand → AV} {ρc : Operand → Value} (hρ : ∀ x, At base J st μ σ w (ρ x) (ρc x)) {o : Oper}
    (hv : vcOpY P T bv o.op ρ st K X) : FinX P (NN base J w0 st μ σ w K) (XX base J w0 st μ σ w X) ((execOp ρc o).run P w) := by
  cases ho : o.op <;> rw [ho] at hv
  case call c =>
    simp only [vcOpY] at hv
    split at hv
    · rename_i f hcal
      have hf := hρ f
      split at hv
      · rename_i k us vs he
        rcases hv.split with hv | hv
        · refine (call_sound hT h hρ ho ?_).x
          simp only [vcOp, hcal, he]
          exact hv
        · rw [he] at hf
          obtain ⟨a1, a2⟩ := ofV_at (w := w) (I := Im base J st μ σ) (hl := st.heap.length) (μ := μ) (tk := st.tk) (σ := σ) us
          obtain ⟨b1, b2⟩ := ofV_at (w := w) (I := Im base J st μ σ) (hl := st.heap.length) (μ := μ) (tk := st.tk) (σ := σ) vs
          obtain ⟨c1, c2⟩ := args_at hρ c.args a1 b1 a2 b2
          rw [call_run ho hcal hf.of_lit hv.1]
          exact xcall_run hT h hρ c1 c2 hv
      · rename_i k us vs he
        rcases hv.split with hv | hv
        · refine (call_sound hT h hρ ho ?_).x
          simp only [vcOp, hcal, he]
          exact hv
        · rw [he] at hf
          generalize hg : ρc f = fv at hf
          cases hf with
          | fn f first captured us vs e1 e2 hr1 hr2 =>
            obtain ⟨c1, c2⟩ := args_at hρ c.args e1 e2 hr1 hr2
            rw [call_run ho hcal hg hv.1]
            exact xcall_run hT h hρ c1 c2 hv
      · exact hv.elim
    · rename_i b hcal
      have hc : ({ c with callee := .builtin b } : Call) = c := by cases c; simp_all
      rw [hc] at hv
      exact (call_sound hT h hρ ho hv).x
    · exact hv.elim
  case buildSlice t len parts =>
    cases bv with
    | false => exact (buildSlice_sound hT h hρ ho hv).x
    | true => exact (buildVar_sound hT h hρ ho hv).x
  case slice t x lo hi mx =>
    cases mx with
    | none => exact (vcOp_sound hT h hρ (by rw [ho]; exact hv)).x
    | some m =>
      simp only [vcOpY] at hv
      split at hv
      · rename_i e hd
        have hus := hT.und hd
        split at hv
        · rename_i sz hsz
          obtain ⟨ie, hie, hse⟩ := Option.map_eq_some_iff.1 hsz
          split at hv
          · rename_i he
            have hx := hρ x
            rw [he] at hx
            have hx := hx.of_lit
            obtain ⟨hh, hv, q1⟩ := bndA_sound hρ hv
            obtain ⟨l, hv, q2⟩ := bndA_sound hρ hv
            obtain ⟨c, hv, q3⟩ := bndA_sound (o := some m) hρ hv
            obtain ⟨his, rfl, rfl, rfl, hk⟩ := hv
            have hb := s3_run (P := P) (w := w) (len := 0) (cap := 0) his q1 q2 q3
            have hrun : (execOp ρc o).run P w = .ok (.value (.slice none 0 0)) w := by
              simp [execOp, ho, Instr.sliceAt, Instr.slice, run_underlying hus, hx, hb, hT.size hie]
            rw [hrun]
            exact NN.same h hk (.lit _)
          · split at hv
            · rename_i szx hrz
              have hx := hρ x
              obtain ⟨hh, hv, q1⟩ := bndA_sound hρ hv
              obtain ⟨l, hv, q2⟩ := bndA_sound hρ hv
              obtain ⟨c, hv, q3⟩ := bndA_sound (o := some m) hρ hv
              obtain ⟨his, rfl, rfl, rfl, hk⟩ := hv
              obtain ⟨g, o2, n, cp, hxv⟩ : ∃ g o2 n cp, ρc x = .slice (some ⟨g, o2, none⟩) n cp := by
                generalize ρ x = a at hx hrz
                generalize ρc x = v at hx
                cases hx with
                | sl t sz es g o cap us hs hn hm hc hr ht1 ht2 => exact ⟨g, o, _, _, rfl⟩
                | sl0 sz a cap hm => simp [rowSz] at hrz
                | hs p lo n cap sz hp hn hm => exact ⟨_, _, _, _, rfl⟩
                | _ => simp [rowSz] at hrz
              have hb := s3_run (P := P) (w := w) (len := n) (cap := cp) his q1 q2 q3
              have hrun : (execOp ρc o).run P w = .ok (.value (.slice (some ⟨g, o2, none⟩) 0 0)) w := by
                simp [execOp, ho, Instr.sliceAt, Instr.slice, run_underlying hus, hxv, hb, hT.size hie]
              rw [hrun]
              refine NN.same h hk ?_
              exact Rp.sl .tight szx [] g o2 0 (fun _ _ => undef) (fun k e he => by simp at he) (Nat.le_refl _) (Nat.zero_le _) (fun k e j a he => by simp at he) (fun k e j a he => by simp at he) (fun _ => rfl) (fun i e ht => by cases ht)
            · exact hv.elim
        · exact hv.elim
      · exact hv.elim
  case panic x =>
    simp only [vcOpY] at hv
    split at hv
    · rename_i t v he
      have hx := hρ x
      rw [he] at hx
      have e : (execOp ρc o).run P w = .halt (.panic (.iface t v)) w := by
        simp [execOp, ho, hx.of_lit, Instr.panic, goPanic]
      rw [e]
      exact ⟨st, μ, σ, hv, h, .refl⟩
    · exact hv.elim
  case makeInterface t x =>
    simp only [vcOpY] at hv
    split at hv
    · rename_i fs hd
      have hus := hT.und hd
      split at hv
      · rename_i cs he
        have hx := hρ x
        rw [he] at hx
        split at hv
        · rename_i vs hvs
          generalize hg : ρc x = xv at hx
          cases hx with
          | agg cs us e1 hr =>
            have : us.toList = vs := unlits_at hvs (by simpa using e1) (fun j a u ha hu => hr j a u ha (by simpa using hu))
            have e : (execOp ρc o).run P w = .ok (.value (.iface t (.agg vs.toArray))) w := by
              simp [execOp, ho, hg, Instr.makeInterface, run_underlying hus, ← this]
            rw [e]
            exact NN.same h hv (.lit _)
        · exact hv.elim
      · exact hv.elim
    · exact hv.elim
  all_goals exact (vcOp_sound hT h hρ (by rw [ho]; exact hv)).x

theorem vcOperY_iff {L : Fr → St → Prop} {Z : List PanicEntry → Fr → St → Prop} {ops : Array Oper} {o : Oper} {fr : Fr} {st : St} : vcOperY P T bv ops o fr st L Z ↔ guard0 ops o.guard fr (vcOpY P T bv o.op fr.ev st (fun v st' => L (fr.put o.dst v) st') (fun ch st' => Z ch fr st')) (L (fr.put o.dst .un) st) := by
  unfold vcOperY
  rw [guardA_iff]
  simp only [Fr.putK_iff]

theorem vcOperY_sound (hT : T.Ok P) {ops : Array Oper} {o : Oper} {fr : Fr} {a : Act} {K : Fr → St → Prop} {Z : List PanicEntry → Fr → St → Prop} {Kc : Act → World → Prop} {Q : Exit → Act → World → Prop} (h : Ok base J w0 st μ σ w) (hf : FrAt base J st μ σ w fr a.tmps) {D : List Deferred} (hdf : a.defers = D)
    (hk : ∀ a' w', Rel base J w0 st μ σ w K a' w' D → Kc a' w') (hz : ∀ ch a' w', Rel base J w0 st μ σ w (Z ch) a' w' D → Q (.panic ch) a' w') (hv : vcOperY P T bv ops o fr st K Z) :
    if Region.wanted o (yielded ops a.tmps) then o.wp P a w Kc Q ∨ (o.asks P a w ∧ LetsOut Q) else Kc (a.put o.dst undef) w := by
  rcases guard0_sound hf o rfl (vcOperY_iff.1 hv) with ⟨hw, hA⟩ | ⟨hw, hB⟩
  · rw [if_pos hw]
    refine .inl (wp_of_finX (vcOpY_sound hT h hf.ev hA) (fun v w' hn => hk _ _ ?_) (fun ch w' hn => hz _ _ _ ?_))
    · obtain ⟨r, st', μ', σ', q1, q2, q3, q4⟩ := hn
      exact ⟨_, st', μ', σ', q1, q2, q3, (hf.ext q3).put o.dst q4, by rw [Act.put_defers', hdf]⟩
    · obtain ⟨st', μ', σ', q1, q2, q3⟩ := hn
      exact ⟨_, st', μ', σ', q1, q2, q3, hf.ext q3, hdf⟩
  · rw [if_neg (by rw [hw]; decide)]
    exact hk _ _ ⟨_, st, μ, σ, hB, h, .refl, hf.put o.dst (.lit _), by rw [Act.put_defers', hdf]⟩

theorem vcOpsY_sound (hT : T.Ok P) {D : List Deferred} {ops : Array Oper} {Q : Exit → Act → World → Prop} {K : Fr → St → Prop} {Z : List PanicEntry → Fr → St → Prop} : ∀ (l : List Oper) {st : St} {μ : Nat → Nat} {σ : Nat → Tkt} {w : World} {fr : Fr} {a : Act}, Ok base J w0 st μ σ w → FrAt base J st μ σ w fr a.tmps → a.defers = D →
    (∀ a' w', Rel base J w0 st μ σ w K a' w' D → Q .normal a' w') → (∀ ch a' w', Rel base J w0 st μ σ w (Z ch) a' w' D → Q (.panic ch) a' w') → vcOpsY P T bv ops l fr st K Z → wpList P ops Q l a w
  | [], st, μ, σ, w, fr, a, h, hf, hd, hk, hz, hv => hk _ _ ⟨fr, st, μ, σ, hv, h, .refl, hf, hd⟩
  | o :: l, st, μ, σ, w, fr, a, h, hf, hd, hk, hz, hv => by
    unfold wpList
    refine vcOperY_sound hT h hf hd (fun a' w' hr => ?_) hz hv
    obtain ⟨fr', st', μ', σ', q1, q2, q3, q4, q5⟩ := hr
    exact vcOpsY_sound hT l q2 q4 q5 (fun a'' w'' hr => hk _ _ (hr.ext q3)) (fun ch a'' w'' hr => hz _ _ _ (hr.ext q3)) q1

theorem vcY_sound (hT : T.Ok P) (hm : P.follows .mixedOrders = true) {D : List Deferred} : ∀ (c : Code) (Q : Exit → Fr → St → Prop) (fr : Fr) (st : St) (μ : Nat → Nat) (σ : Nat → Tkt) (a : Act) (w : World),
    vcY P T bv esc c Q fr st → Ok base J w0 st μ σ w → FrAt base J st μ σ w fr a.tmps → a.defers = D → c.wp P (fun e a' w' => Rel base J w0 st μ σ w (Q e) a' w' D) a w := by
  intro c
  induction c with
  | skip => intro Q fr st μ σ a w hv h hf hd; exact wp_skip ⟨fr, st, μ, σ, hv, h, .refl, hf, hd⟩
  | label l => intro Q fr st μ σ a w hv h hf hd; exact wp_label ⟨fr, st, μ, σ, hv, h, .refl, hf, hd⟩
  | exit id => intro Q fr st μ σ a w hv h hf hd; exact wp_exit ⟨fr, st, μ, σ, hv, h, .refl, hf, hd⟩
  | ret => intro Q fr st μ σ a w hv h hf hd; exact wp_ret ⟨fr, st, μ, σ, hv, h, .refl, hf, hd⟩
  | region id ops draw =>
    intro Q fr st μ σ a w hv h hf hd
    simp only [vcY] at hv
    cases he : esc id with
    | true =>
      rw [he] at hv
      exact hv _ _ _ _ _ _ _ _ h hf hd
    | false =>
    rw [he] at hv
    cases draw with
    | false => exact wp_region_list (vcOpsY_sound hT _ h hf hd (fun _ _ hr => hr) (fun _ _ _ hr => hr) hv)
    | true =>
      have hany : vcAny P T ops (fun fr' st' => ∃ fr0, Fr.le (dsts ops) fr' fr0 ∧ Q .normal fr0 st') ops.size (Array.replicate ops.size false) fr st := draw_any hv
      obtain ⟨ok', ext'⟩ := h.step (below_drew w)
      refine wp_region_any hm ?_
      exact vcAny_sound hT _ _ ok' (hf.ext ext') hd (fun _ _ hr => by
        obtain ⟨fr1, st1, μ1, σ1, ⟨fr0, q0, q1⟩, q2, q3, q4, q5⟩ := hr
        exact ⟨fr0, st1, μ1, σ1, q1, q2, ext'.trans q3, q4.le q0, q5⟩) hany
  | seq x y ihx ihy =>
    intro Q fr st μ σ a w hv h hf hd
    refine wp_seq (wp_mono (ihx _ fr st μ σ a w hv h hf hd) fun e a' w' hr => ?_)
    cases e with
    | normal =>
      obtain ⟨fr', st', μ', σ', q1, q2, q3, q4, q5⟩ := hr
      exact wp_mono (ihy _ fr' st' μ' σ' a' w' q1 q2 q4 q5) fun e a'' w'' hr => hr.ext q3
    | _ => exact hr
  | cond c x y ihx ihy =>
    intro Q fr st μ σ a w hv h hf hd
    simp only [vcY] at hv
    split at hv
    · rename_i t he
      have hc := hf.ev c
      rw [he] at hc
      have hc := hc.of_lit
      cases t
      · exact wp_cond_false hc (ihy _ fr st μ σ a w hv h hf hd)
      · exact wp_cond_true hc (ihx _ fr st μ σ a w hv h hf hd)
    · exact hv.elim
  | block id b ih =>
    intro Q fr st μ σ a w hv h hf hd
    refine wp_block (wp_mono (ih _ fr st μ σ a w hv h hf hd) fun e a' w' hr => ?_)
    cases e with
    | exit id' =>
      show (if id' = id then Rel base J w0 st μ σ w (Q .normal) a' w' D else Rel base J w0 st μ σ w (Q (.exit id')) a' w' D)
      by_cases e : id' = id
      · rw [if_pos e]
        exact hr.mono fun fr st hq => by simpa [blockQ, e] using hq
      · rw [if_neg e]
        exact hr.mono fun fr st hq => by simpa [blockQ, e] using hq
    | _ => exact hr
  | loop b ih =>
    intro Q fr st μ σ a w hv h hf hd
    obtain ⟨I, ⟨g0, fr0, hle, hI⟩, hround⟩ := hv
    intro bf k cs
    have key : ∀ g (fr : Fr) (st' : St) (μ' : Nat → Nat) (σ' : Nat → Tkt) (a : Act) (w' : World), I g fr st' → Ok base J w0 st' μ' σ' w' → Ext base J st μ σ w st' μ' σ' w' → FrAt base J st' μ' σ' w' fr a.tmps → a.defers = D →
        ∃ e a' w'', Rel base J w0 st μ σ w (Q e) a' w'' D ∧ Arrives P (lone (bf.at a (.code b :: .inLoop b :: k)) cs w') bf k cs e a' w'' := by
      intro g
      induction g using Nat.strongRecOn with
      | _ g ihg =>
        intro fr st' μ' σ' a w' hI h' x' hf' hd'
        obtain ⟨e, a1, w1, hq, harr⟩ := ih _ fr st' μ' σ' a w' (hround g fr st' hI) h' hf' hd' bf (.inLoop b :: k) cs
        cases e with
        | normal =>
          obtain ⟨fr1, st1, μ1, σ1, ⟨g', fr2, hlt, hle2, hI2⟩, q2, q3, q4, q5⟩ := hq
          obtain ⟨e2, a2, w2, hq2, harr2⟩ := ihg g' hlt fr2 st1 μ1 σ1 a1 w1 hI2 q2 (x'.trans q3) (q4.le hle2) q5
          exact ⟨e2, a2, w2, hq2, .of_steps (Steps.trans harr (.one step_inLoop)) harr2⟩
        | exit id => exact ⟨_, a1, w1, Rel.ext x' (Rel.le hq), .pass (x := .inLoop b) rfl (fun _ _ => .inl (by simp)) harr⟩
        | goto l => exact ⟨_, a1, w1, Rel.ext x' (Rel.le hq), .pass (x := .inLoop b) rfl (fun _ _ => .inl (by simp)) harr⟩
        | ret => exact ⟨_, a1, w1, Rel.ext x' (Rel.le hq), .pass (x := .inLoop b) rfl (fun _ _ => .inl (by simp)) harr⟩
        | panic ch => exact ⟨_, a1, w1, Rel.ext x' (Rel.le hq), .pass (x := .inLoop b) rfl (fun _ _ => .inl (by simp)) harr⟩
        | outgrown => exact ⟨_, a1, w1, Rel.ext x' (Rel.le hq), .pass (x := .inLoop b) rfl (fun _ _ => .inl (by simp)) harr⟩
    obtain ⟨e, a', w', hq, harr⟩ := key g0 fr0 st μ σ a w hI h .refl (hf.le hle) hd
    exact ⟨e, a', w', hq, .of_steps (.one step_loop) harr⟩
  | _ => intro Q fr st μ σ a w hv; exact hv.elim

/-- a call that may end in a panic, out of its body -/
theorem ACallsX.of_vcY (hT : T.Ok P) (hm : P.follows .mixedOrders = true) {f : FuncId} {fn : Func} {c : Code} (hf : P.funcs[f]? = some fn) (hb : fn.body = some c)
    (hcall : ∀ zs w, (callFunc f zs).run P w = .ok (.enter f zs) w) {args : List AV} {st : St} {R : AV → St → Prop} {X : List PanicEntry → St → Prop} (hv : frameK fn args fun fr => vcY P T bv esc c (retX T fn R X) fr st) : ACallsX P f args st R X := by
  have hv := frameK_iff.1 hv
  refine ⟨hcall, fun base J w0 μ σ w vs h hl ha => ?_⟩
  refine calls_of_wp hf hb (wp_mono (vcY_sound hT hm c _ _ st μ σ { tmps := vs ++ Array.replicate (fn.ntmps - vs.size) undef, defers := [] } w hv h ?_ rfl) fun e a' w' hr => ?_)
  · refine ⟨by simp [frame, hl], fun i a v h1 h2 => ?_⟩
    simp only [frame, List.getElem?_append, hl] at h1
    rw [Array.getElem?_append] at h2
    by_cases hi : i < vs.size
    · rw [if_pos hi] at h1 h2
      exact ha i a v h1 h2
    · rw [if_neg hi] at h1 h2
      rw [List.getElem?_replicate] at h1
      rw [Array.getElem?_replicate] at h2
      split at h1
      · split at h2
        · cases h1; cases h2; exact .lit _
        · rename_i q1 q2; exact absurd q1 q2
      · cases h1
  · have ret : ∀ (e : Exit), (e = .normal ∨ e = .ret) → Rel base J w0 st μ σ w (retX T fn R X e) a' w' → a'.defers = [] ∧ ∃ v, (results fn a'.tmps).run P w' = .ok v w' ∧ ((∃ v', ∃ r st' μ' σ', Ending.returned v = .returned v' ∧ R r st' ∧ Ok base J w0 st' μ' σ' w' ∧ Ext base J st μ σ w st' μ' σ' w' ∧ At base J st' μ' σ' w' r v') ∨
        ∃ ch st' μ' σ', Ending.returned v = .panicked ch ∧ X ch st' ∧ Ok base J w0 st' μ' σ' w' ∧ Ext base J st μ σ w st' μ' σ' w') := by
      rintro e he ⟨fr', st', μ', σ', q1, q2, q3, q4, q5⟩
      have q1' : resAll T fn.results.toList fr' st' fun vs => match vs with | [v] => R v st' | vs => R (.tup vs) st' := by
        rcases he with rfl | rfl <;> exact q1
      obtain ⟨v, a, h1, h2, h3⟩ := res_sound hT q2 q4 q1'
      exact ⟨q5, v, h1, .inl ⟨v, a, st', μ', σ', rfl, h2, q2, q3, h3⟩⟩
    cases e with
    | normal => exact ret _ (.inl rfl) hr
    | ret => exact ret _ (.inr rfl) hr
    | panic ch =>
      obtain ⟨fr', st', μ', σ', q1, q2, q3, q4, q5⟩ := hr
      exact ⟨q5, .inr ⟨ch, st', μ', σ', rfl, q1, q2, q3⟩⟩
    | _ => obtain ⟨fr', st', μ', σ', q1, _⟩ := hr; exact q1.elim
theorem ACallsX.bare {f : FuncId} {args : List AV} {st : St} {R : AV → St → Prop} (h : ACallsX P f args st R fun _ _ => False) : ACalls P f args st R := by
  refine ⟨h.1, fun base J w0 μ σ w vs a b c => (h.2 base J w0 μ σ w vs a b c).mono ?_⟩
  rintro e w' (hx | ⟨ch, st', μ', σ', q1, q2, _⟩)
  · exact hx
  · exact q2.elim
end
end Go.Proofs.YthnmbfiandpedaaGreatDoor
/- Regions whose order is drawn: plans for those whose calls see nothing but data. No statement of its own. -/
set_option linter.unusedSimpArgs false
set_option linter.unusedVariables false
set_option maxRecDepth 100000
namespace Go.Proofs.YthnmbfiandpedaaGreatDoor
open Go.RowKit
section
variable {P : Program} {T : Tab} {ops : Array Oper}
/-- may x be taken ahead of y, whatever order was picked? -/
def commX (a b : Op) : Bool :=
  match cls true a with
  | 0 => true
  | 1 => decide (cls true b ≤ 1) || isNew b
  | _ => false
def freeX (ops : Array Oper) (listed : Array Bool) (i : Nat) : Bool :=
  match ops[i]? with
  | none => false
  | some oi => (fun D => !(D.getD i false) && (List.range ops.size).all fun j => (!(D.getD j false) || !(listed.getD j true)) && (j == i || listed.getD j true || match ops[j]? with
      | some oj => oj.after.any (fun e => Region.binds .any e && (e.on == i || D.getD e.on false)) || (!(D.getD j false) && oi.apart ops oj && commX oi.op oj.op)
      | none => true)) (dset ops i)
/-- which operation comes next: one that may be taken ahead of all others; or each of two, or of three -/
inductive PlanX where
  | done
  | one (k : Nat) (p : PlanX)
  | two (j k : Nat) (p q : PlanX)
  | tri (i j k : Nat) (p q r : PlanX)
def okX (ops : Array Oper) : Nat → PlanX → Array Bool → Bool
  | 0, .done, listed => (Region.ready .any ops listed).isEmpty
  | n + 1, .one k p, listed => (Region.ready .any ops listed).contains k && (freeX ops listed k || Region.ready .any ops listed == [k]) && okX ops n p (listed.setIfInBounds k true)
  | n + 1, .two j k p q, listed => Region.ready .any ops listed == [j, k] && okX ops n p (listed.setIfInBounds j true) && okX ops n q (listed.setIfInBounds k true)
  | n + 1, .tri i j k p q r, listed => Region.ready .any ops listed == [i, j, k] && okX ops n p (listed.setIfInBounds i true) && okX ops n q (listed.setIfInBounds j true) && okX ops n r (listed.setIfInBounds k true)
  | _, _, _ => false
variable (P T)
def vcX (ops : Array Oper) (K : Fr → St → Prop) : PlanX → Fr → St → Prop
  | .done, fr, st => K fr st
  | .one k p, fr, st => match ops[k]? with
    | some o => vcOperX P T ops o fr st fun fr' st' => vcX ops K p fr' st'
    | none => False
  | .two j k p q, fr, st => (match ops[j]? with
    | some o => vcOperX P T ops o fr st fun fr' st' => vcX ops K p fr' st'
    | none => False) ∧ (match ops[k]? with
    | some o => vcOperX P T ops o fr st fun fr' st' => vcX ops K q fr' st'
    | none => False)
  | .tri i j k p q r, fr, st => (match ops[i]? with
    | some o => vcOperX P T ops o fr st fun fr' st' => vcX ops K p fr' st'
    | none => False) ∧ (match ops[j]? with
    | some o => vcOperX P T ops o fr st fun fr' st' => vcX ops K q fr' st'
    | none => False) ∧ (match ops[k]? with
    | some o => vcOperX P T ops o fr st fun fr' st' => vcX ops K r fr' st'
    | none => False)
variable {P T}
theorem vcOpX_new {o : Op} (ho : isNew o = true) (ρ : Operand → AV) (st : St) (K : AV → St → Prop) (h : vcOpX P T o ρ st K) : vcOpX P T o ρ st (fun v st' => Pre st st' ∧ K v st') := by
  cases o
  case call c =>
    cases hcal : c.callee with
    | builtin b => exact vcOpX_app (by cases b <;> simp [isNew, isApp, hcal] at ho ⊢) ρ st K h
    | value f =>
      revert h
      simp only [vcOpX, hcal]
      have key : ∀ (k : FuncId) (args : List AV), callP P k args st K → callP P k args st (fun v st' => Pre st st' ∧ K v st') := by
        rintro k args (⟨h0, h1, h2⟩ | ⟨h0, h3, h1, h2⟩)
        · exact .p h0 h1 ⟨.refl _, h2⟩
        · exact .w h0 h3 h1 ⟨.refl _, h2⟩
      repeat' split
      all_goals first | exact key _ _ | exact fun h => h
    | invoke r m => simp [isNew, hcal] at ho
  case alloc t => exact vcOpN_new (P := P) (T := T) (o := .alloc t) rfl ρ st K h
  case box t x => exact vcOpN_new (P := P) (T := T) (o := .box t x) rfl ρ st K h
  all_goals simp [isNew] at ho
theorem anyX_one {K : Fr → St → Prop} {k : Nat} {o : Oper} {n : Nat} {listed : Array Bool} {fr : Fr} {st : St} (h0 : ops[k]? = some o) (hr : (Region.ready .any ops listed).contains k = true) (hf : freeX ops listed k = true ∨ Region.ready .any ops listed = [k])
    (h : operG (vcOpX P T) ops o fr st fun fr' st' => anyG (fun _ => vcOpX P T) ops K n (listed.setIfInBounds k true) fr' st') : anyG (fun _ => vcOpX P T) ops K (n + 1) listed fr st := by
  have hV : Good true (vcOpX P T) := goodX
  rcases hf with hf | hf
  case inr => exact anyG_only h0 hf h
  have hr' : k ∈ Region.ready .any ops listed := by simpa using hr
  obtain ⟨D, hDe⟩ : ∃ D : Nat → Bool, D = fun j => (dset ops k).getD j false := ⟨_, rfl⟩
  have hDk : D k = false := by
    have := hf
    simp only [freeX, h0, Bool.and_eq_true] at this
    rw [hDe]
    simpa using this.1
  have hf0 : ∀ j, j < ops.size → (D j = true → listed.getD j true = false) ∧ (j = k ∨ listed.getD j true = true ∨ ∀ oj, ops[j]? = some oj → (∃ e ∈ oj.after, Region.binds .any e = true ∧ (e.on = k ∨ D e.on = true)) ∨ (D j = false ∧ o.apart ops oj = true ∧ commX o.op oj.op = true)) := by
    intro j hj
    simp only [freeX, h0, Bool.and_eq_true, List.all_eq_true, List.mem_range] at hf
    obtain ⟨h1, h2⟩ := hf.2 j hj
    have hDj : D j = (dset ops k).getD j false := by rw [hDe]
    refine ⟨fun hd => ?_, ?_⟩
    · rw [hDj] at hd
      rw [hd] at h1
      simpa using h1
    · simp only [Bool.or_eq_true, beq_iff_eq] at h2
      rcases h2 with (h2 | h2) | h2
      · exact .inl h2
      · exact .inr (.inl h2)
      · refine .inr (.inr fun oj hoj => ?_)
        rw [hoj] at h2
        simp only [Bool.or_eq_true, Bool.and_eq_true] at h2
        rcases h2 with h2 | ⟨⟨h3, h4⟩, h5⟩
        · obtain ⟨e, he, hb⟩ := Array.any_eq_true'.1 h2
          simp only [Bool.and_eq_true, Bool.or_eq_true, beq_iff_eq] at hb
          exact .inl ⟨e, he, hb.1, hb.2.imp id (fun h => by rw [hDe]; exact h)⟩
        · refine .inr ⟨?_, h4, h5⟩
          rw [hDj]
          simpa using h3
  have dlen : ∀ j, D j = true → j < ops.size := fun j hj => by
    have hl : (dset ops k).length = ops.size := by
      unfold dset
      have : ∀ (f : List Bool → Nat → Bool) (l : List Nat) (D : List Bool), (l.foldl (fun D j => D ++ [f D j]) D).length = D.length + l.length := by
        intro f l
        induction l with
        | nil => intro D; rfl
        | cons a r ih => intro D; rw [List.foldl_cons, ih]; simp; omega
      exact (this (fun D j => match ops[j]? with | some oj => oj.after.any (fun e => Region.binds .any e && (e.on == k || D.getD e.on false)) | none => false) (List.range ops.size) []).trans (by simp)
    rw [hDe] at hj
    apply Decidable.byContradiction
    intro hc
    simp only [List.getD_eq_getElem?_getD] at hj
    rw [List.getElem?_eq_none (by omega)] at hj
    cases hj
  have hDl : ∀ j, D j = true → listed.getD j true = false := fun j hj => (hf0 j (dlen j hj)).1 hj
  have hkun := (mem_ready.1 hr').1
  have hDall : ∀ j oj, ops[j]? = some oj → D j = true → ∃ e ∈ oj.after, Region.binds .any e = true ∧ (e.on = k ∨ D e.on = true) := fun j oj hoj hd => by
    by_cases hjk : j = k
    · rw [hjk, hDk] at hd; cases hd
    · rcases (hf0 j (dlen j hd)).2 with h1 | h1 | h1
      · exact absurd h1 hjk
      · rw [hDl j hd] at h1; cases h1
      · rcases h1 oj hoj with h1 | h1
        · exact h1
        · rw [h1.1] at hd; cases hd
  have hf' : ∀ j oj, ops[j]? = some oj → j ≠ k → listed.getD j true = false → (∀ e ∈ oj.after, Region.binds .any e = true → e.on ≠ k ∧ D e.on = false) → o.apart ops oj = true ∧ commX o.op oj.op = true := by
    intro j oj hoj hne hun hno
    rcases (hf0 j (Array.getElem?_eq_some_iff.1 hoj).1).2 with h1 | h1 | h1
    · exact absurd h1 hne
    · rw [hun] at h1; cases h1
    · rcases h1 oj hoj with ⟨e, he, hb, hor⟩ | h1
      · obtain ⟨n1, n2⟩ := hno e he hb
        rcases hor with hor | hor
        · exact absurd hor n1
        · rw [n2] at hor; cases hor
      · exact h1.2
  by_cases hc : cls true o.op ≤ 1
  · obtain ⟨v, hy, hk⟩ := operG_det hV hc h
    refine anyG_first (V := fun _ => vcOpX P T) (fun _ => hV.zero) h0 D hDall n listed fr st (C := fun st' => cls true o.op = 1 → Pre st st') (fun _ => .refl _) hDl (fun j oj hoj hne hun hno => ?_) hr' hy hk
    obtain ⟨q1, q2⟩ := hf' j oj hoj hne hun hno
    refine ⟨q1, fun fr2 st2 K2 hC2 h2 => ?_⟩
    by_cases h1 : cls true o.op = 1
    · have hcj : cls true oj.op ≤ 1 ∨ isNew oj.op = true := by
        unfold commX at q2
        rw [h1] at q2
        simpa using q2
      rcases hcj with hcj | hcj
      case inr => exact guard0_mono (fun h => hV.mono (fun v st' h => ⟨fun e => (hC2 e).trans h.1, h.2⟩) (vcOpX_new hcj _ _ _ h)) (fun h => ⟨hC2, h⟩) h2
      obtain ⟨u, hyj, hkj⟩ := operG_det hV hcj h2
      exact hyj _ _ (fun _ => .refl _) ⟨hC2, hkj⟩
    · exact operG_mono hV.zero (fun u st3 h3 => ⟨fun e => absurd e h1, h3⟩) h2
  · have honly : ∀ j, j ∈ Region.ready .any ops listed → j = k := fun j hj => by
      apply Decidable.byContradiction
      intro hne
      obtain ⟨hjun, oj, hoj, hall⟩ := mem_ready.1 hj
      have clash : ∀ m : Nat, listed.getD m true = false → ∀ e ∈ oj.after, Region.binds .any e = true → e.on = m → False := fun m h0 e he hb heq => by
        have h1 := hall e he hb
        rw [heq] at h1
        rcases Nat.lt_or_ge m listed.size with h' | h'
        · simp [h'] at h0 h1; rw [h0] at h1; cases h1
        · simp [Array.getElem?_eq_none h'] at h1
      have hno : ∀ e ∈ oj.after, Region.binds .any e = true → e.on ≠ k ∧ D e.on = false := fun e he hb => by
        refine ⟨fun heq => clash k hkun e he hb heq, ?_⟩
        cases hd : D e.on with
        | false => rfl
        | true => exact (clash e.on (hDl _ hd) e he hb rfl).elim
      have q2 := (hf' j oj hoj hne hjun hno).2
      unfold commX at q2
      split at q2
      · omega
      · omega
      · cases q2
    refine ⟨(fun h => by rw [h] at hr'; cases hr'), fun j hj => ?_⟩
    have := honly j hj
    subst this
    exact ⟨o, h0, h⟩
theorem anyX_plan {K : Fr → St → Prop} : ∀ (n : Nat) (p : PlanX) (listed : Array Bool) (fr : Fr) (st : St), okX ops n p listed = true → vcX P T ops K p fr st → anyG (fun _ => vcOpX P T) ops K n listed fr st := by
  have hV : Good0 (vcOpX P T) := Good.zero (x := true) goodX
  intro n
  induction n with
  | zero =>
    intro p listed fr st hB h
    cases p with
    | done => exact ⟨by simpa [okX] using hB, h⟩
    | _ => simp [okX] at hB
  | succ n ih =>
    intro p listed fr st hB h
    have step : ∀ (j : Nat) (p : PlanX), okX ops n p (listed.setIfInBounds j true) = true → (match ops[j]? with | some o => vcOperX P T ops o fr st fun fr' st' => vcX P T ops K p fr' st' | none => False) → ∃ o, ops[j]? = some o ∧ operG (vcOpX P T) ops o fr st fun fr' st' => anyG (fun _ => vcOpX P T) ops K n (listed.setIfInBounds j true) fr' st' := by
      intro j p hB h
      split at h
      case h_2 => exact h.elim
      rename_i o h0
      exact ⟨o, h0, operG_mono hV (fun v st' h' => ih p _ _ _ hB h') (operGX_iff.1 h)⟩
    cases p with
    | done => simp [okX] at hB
    | one k p =>
      simp only [okX, Bool.and_eq_true, Bool.or_eq_true, beq_iff_eq] at hB
      obtain ⟨⟨hr, hf⟩, hB'⟩ := hB
      unfold vcX at h
      obtain ⟨o, h0, h1⟩ := step k p hB' h
      exact anyX_one h0 hr hf h1
    | two j k p q =>
      simp only [okX, Bool.and_eq_true, beq_iff_eq] at hB
      obtain ⟨⟨he, hB1⟩, hB2⟩ := hB
      unfold vcX at h
      refine ⟨(fun h => by rw [h] at he; cases he), fun i hi => ?_⟩
      rw [he] at hi
      simp only [List.mem_cons, List.not_mem_nil, or_false] at hi
      rcases hi with rfl | rfl
      · exact step _ p hB1 h.1
      · exact step _ q hB2 h.2
    | tri i j k p q r =>
      simp only [okX, Bool.and_eq_true, beq_iff_eq] at hB
      obtain ⟨⟨⟨he, hB1⟩, hB2⟩, hB3⟩ := hB
      unfold vcX at h
      refine ⟨(fun h => by rw [h] at he; cases he), fun i' hi => ?_⟩
      rw [he] at hi
      simp only [List.mem_cons, List.not_mem_nil, or_false] at hi
      rcases hi with rfl | rfl | rfl
      · exact step _ p hB1 h.1
      · exact step _ q hB2 h.2.1
      · exact step _ r hB3 h.2.2
def planXOk (ops : Array Oper) (p : PlanX) : Bool := okX ops ops.size p (Array.replicate ops.size false)
theorem draw_X {K : Fr → St → Prop} {fr : Fr} {st : St} (p : PlanX) (hp : planXOk ops p = true) (h : vcX P T ops K p fr st) : VDraw P T ops K fr st :=
  .any (vcAny_of (fun h => vcOpX_le h) _ _ _ _ (anyX_plan _ p _ fr st hp h))
end
end Go.Proofs.YthnmbfiandpedaaGreatDoor
/- Regions whose order is drawn, in which a row is made that is a variable. No statement of its own. -/
set_option linter.unusedSimpArgs false
set_option linter.unusedVariables false
set_option maxRecDepth 100000
namespace Go.Proofs.YthnmbfiandpedaaGreatDoor
open Go.RowKit
section
variable {base : Nat} {J : Nat → Nat → Prop} {w0 : World} {st : St} {μ : Nat → Nat} {σ : Nat → Tkt} {w w' : World} {P : Program} {T : Tab} {ops : Array Oper}
def plain0 : Op → Bool
  | .move _ => true
  | .nilCheck _ => true
  | .fieldAddr _ _ _ => true
  | _ => false
def kindW : Op → Bool
  | .move _ => true
  | .nilCheck _ => true
  | .fieldAddr _ _ _ => true
  | .buildSlice _ _ _ => true
  | .call c => match c.callee with | .builtin _ => true | _ => false
  | _ => false
variable (P T)
def vcB (o : Op) (ρ : Operand → AV) (st : St) (K : AV → St → Prop) : Prop := match o with
  | .buildSlice t n ps => vcOpY P T true (.buildSlice t n ps) ρ st K fun _ _ => False
  | o => vcOp P T o ρ st K
variable {P T}
theorem vcB_good : Good0 (vcB P T) := by
  refine ⟨fun {o ρ st K K'} hk h => ?_, fun {o ρ ρ'} h st K => ?_⟩
  · cases o with
    | buildSlice t n ps =>
      revert h
      simp only [vcB, vcOpY]
      repeat' split
      all_goals intro h
      all_goals first | exact hk _ _ h | exact h
    | _ =>
      simp only [vcB] at h ⊢
      exact vcOp_mono hk h
  · cases o with
    | buildSlice t n ps =>
      have hp : ps.toList.map (fun p => (p.1, ρ p.2)) = ps.toList.map (fun p => (p.1, ρ' p.2)) := List.map_congr_left fun p hp' => by
        have : ∀ x ∈ (ps.toList.map (·.2)).toArray, ρ x = ρ' x := h
        rw [this p.2 (by simpa using ⟨p.1, by simpa using hp'⟩)]
      simp only [vcB, vcOpY, hp]
    | _ =>
      simp only [vcB]
      exact vcOp_congr h st K
theorem vcB_det {o : Op} (h : plain0 o = true) : Det (vcB P T) 0 o := by
  cases o with
  | move x => exact vcOp_det (P := P) (T := T) (x := false) (o := .move x) (Nat.zero_le _) (fun c f e => by cases e)
  | nilCheck x => exact vcOp_det (P := P) (T := T) (x := false) (o := .nilCheck x) (Nat.zero_le _) (fun c f e => by cases e)
  | fieldAddr s x f => exact vcOp_det (P := P) (T := T) (x := false) (o := .fieldAddr s x f) (Nat.zero_le _) (fun c f e => by cases e)
  | _ => cases h
theorem vcB_of {o : Op} (h : kindW o = true) {ρ : Operand → AV} {st : St} {K : AV → St → Prop} (hv : vcOpY P T true o ρ st K fun _ _ => False) : vcB P T o ρ st K := by
  cases o with
  | buildSlice t n ps => exact hv
  | call c =>
    cases hc : c.callee with
    | builtin b =>
      have e : ({ c with callee := .builtin b } : Call) = c := by cases c; cases hc; rfl
      simp only [vcOpY, hc, e] at hv
      exact hv
    | _ => simp [kindW, hc] at h
  | move x => exact hv
  | nilCheck x => exact hv
  | fieldAddr s x f => exact hv
  | _ => cases h
def freeW (ops : Array Oper) (listed : Array Bool) (i : Nat) : Bool :=
  match ops[i]? with
  | none => false
  | some oi => (fun D => !(D.getD i false) && (List.range ops.size).all fun j => (!(D.getD j false) || !(listed.getD j true)) && (j == i || listed.getD j true || match ops[j]? with
      | some oj => oj.after.any (fun e => Region.binds .any e && (e.on == i || D.getD e.on false)) || (!(D.getD j false) && oi.apart ops oj)
      | none => true)) (dset ops i)
def okW (ops : Array Oper) : Nat → List Nat → Array Bool → Bool
  | 0, [], listed => (Region.ready .any ops listed).isEmpty
  | n + 1, k :: l, listed => (Region.ready .any ops listed).contains k && (match ops[k]? with | some o => kindW o.op && ((plain0 o.op && freeW ops listed k) || Region.ready .any ops listed == [k]) | none => false) && okW ops n l (listed.setIfInBounds k true)
  | _, _, _ => false
theorem anyW_one {K : Fr → St → Prop} {k : Nat} {o : Oper} {n : Nat} {listed : Array Bool} {fr : Fr} {st : St} (h0 : ops[k]? = some o) (hr : (Region.ready .any ops listed).contains k = true) (hf : (plain0 o.op = true ∧ freeW ops listed k = true) ∨ Region.ready .any ops listed = [k])
    (h : operG (vcB P T) ops o fr st fun fr' st' => anyG (fun _ => vcB P T) ops K n (listed.setIfInBounds k true) fr' st') : anyG (fun _ => vcB P T) ops K (n + 1) listed fr st := by
  have hV : Good0 (vcB P T) := vcB_good
  rcases hf with ⟨hp, hf⟩ | hf
  case inr => exact anyG_only h0 hf h
  have hr' : k ∈ Region.ready .any ops listed := by simpa using hr
  obtain ⟨D, hDe⟩ : ∃ D : Nat → Bool, D = fun j => (dset ops k).getD j false := ⟨_, rfl⟩
  have hDk : D k = false := by
    have := hf
    simp only [freeW, h0, Bool.and_eq_true] at this
    rw [hDe]
    simpa using this.1
  have hf0 : ∀ j, j < ops.size → (D j = true → listed.getD j true = false) ∧ (j = k ∨ listed.getD j true = true ∨ ∀ oj, ops[j]? = some oj → (∃ e ∈ oj.after, Region.binds .any e = true ∧ (e.on = k ∨ D e.on = true)) ∨ (D j = false ∧ o.apart ops oj = true)) := by
    intro j hj
    simp only [freeW, h0, Bool.and_eq_true, List.all_eq_true, List.mem_range] at hf
    obtain ⟨h1, h2⟩ := hf.2 j hj
    have hDj : D j = (dset ops k).getD j false := by rw [hDe]
    refine ⟨fun hd => ?_, ?_⟩
    · rw [hDj] at hd
      rw [hd] at h1
      simpa using h1
    · simp only [Bool.or_eq_true, beq_iff_eq] at h2
      rcases h2 with (h2 | h2) | h2
      · exact .inl h2
      · exact .inr (.inl h2)
      · refine .inr (.inr fun oj hoj => ?_)
        rw [hoj] at h2
        simp only [Bool.or_eq_true, Bool.and_eq_true] at h2
        rcases h2 with h2 | ⟨h3, h4⟩
        · obtain ⟨e, he, hb⟩ := Array.any_eq_true'.1 h2
          simp only [Bool.and_eq_true, Bool.or_eq_true, beq_iff_eq] at hb
          exact .inl ⟨e, he, hb.1, hb.2.imp id (fun h => by rw [hDe]; exact h)⟩
        · refine .inr ⟨?_, h4⟩
          rw [hDj]
          simpa using h3
  have dlen : ∀ j, D j = true → j < ops.size := fun j hj => by
    have hl : (dset ops k).length = ops.size := by
      unfold dset
      have : ∀ (f : List Bool → Nat → Bool) (l : List Nat) (D : List Bool), (l.foldl (fun D j => D ++ [f D j]) D).length = D.length + l.length := by
        intro f l
        induction l with
        | nil => intro D; rfl
        | cons a r ih => intro D; rw [List.foldl_cons, ih]; simp; omega
      exact (this (fun D j => match ops[j]? with | some oj => oj.after.any (fun e => Region.binds .any e && (e.on == k || D.getD e.on false)) | none => false) (List.range ops.size) []).trans (by simp)
    rw [hDe] at hj
    apply Decidable.byContradiction
    intro hc
    simp only [List.getD_eq_getElem?_getD] at hj
    rw [List.getElem?_eq_none (by omega)] at hj
    cases hj
  have hDl : ∀ j, D j = true → listed.getD j true = false := fun j hj => (hf0 j (dlen j hj)).1 hj
  have hkun := (mem_ready.1 hr').1
  have hDall : ∀ j oj, ops[j]? = some oj → D j = true → ∃ e ∈ oj.after, Region.binds .any e = true ∧ (e.on = k ∨ D e.on = true) := fun j oj hoj hd => by
    by_cases hjk : j = k
    · rw [hjk, hDk] at hd; cases hd
    · rcases (hf0 j (dlen j hd)).2 with h1 | h1 | h1
      · exact absurd h1 hjk
      · rw [hDl j hd] at h1; cases h1
      · rcases h1 oj hoj with h1 | h1
        · exact h1
        · rw [h1.1] at hd; cases hd
  have hf' : ∀ j oj, ops[j]? = some oj → j ≠ k → listed.getD j true = false → (∀ e ∈ oj.after, Region.binds .any e = true → e.on ≠ k ∧ D e.on = false) → o.apart ops oj = true := by
    intro j oj hoj hne hun hno
    rcases (hf0 j (Array.getElem?_eq_some_iff.1 hoj).1).2 with h1 | h1 | h1
    · exact absurd h1 hne
    · rw [hun] at h1; cases h1
    · rcases h1 oj hoj with ⟨e, he, hb, hor⟩ | h1
      · obtain ⟨n1, n2⟩ := hno e he hb
        rcases hor with hor | hor
        · exact absurd hor n1
        · rw [n2] at hor; cases hor
      · exact h1.2
  obtain ⟨v, hy, hk⟩ : ∃ v, Yld (vcB P T) ops o fr v (fun _ => True) ∧ anyG (fun _ => vcB P T) ops K n (listed.setIfInBounds k true) (fr.put o.dst v) st := by
    unfold operG at h
    rcases guard0_key _ h with ⟨hA, hg⟩ | ⟨hB, hg⟩
    · obtain ⟨v, h1, h2⟩ := vcB_det hp _ _ _ hA
      exact ⟨v, fun st' K' _ hk => hg _ _ (h1 st' _ (fun e => by cases e) hk), h2⟩
    · exact ⟨.un, fun st' K' _ hk => hg _ _ hk, hB⟩
  refine anyG_first (V := fun _ => vcB P T) (fun _ => hV) h0 D hDall n listed fr st (C := fun _ => True) trivial hDl (fun j oj hoj hne hun hno => ?_) hr' hy hk
  exact ⟨hf' j oj hoj hne hun hno, fun fr2 st2 K2 _ h2 => operG_mono hV (fun u st3 h3 => ⟨trivial, h3⟩) h2⟩
/-- the walk in an order -/
def vcWl (P : Program) (T : Tab) (ops : Array Oper) (K : Fr → St → Prop) : List Nat → Fr → St → Prop
  | [], fr, st => K fr st
  | k :: l, fr, st => match ops[k]? with
    | some o => operG (vcB P T) ops o fr st fun fr' st' => vcWl P T ops K l fr' st'
    | none => False
theorem anyW_list {K : Fr → St → Prop} : ∀ (n : Nat) (l : List Nat) (listed : Array Bool) (fr : Fr) (st : St), okW ops n l listed = true → vcWl P T ops K l fr st → anyG (fun _ => vcB P T) ops K n listed fr st
  | 0, [], listed, fr, st, hB, h => ⟨by simpa [okW] using hB, h⟩
  | 0, _ :: _, listed, fr, st, hB, h => by simp [okW] at hB
  | n + 1, [], listed, fr, st, hB, h => by simp [okW] at hB
  | n + 1, k :: l, listed, fr, st, hB, h => by
    simp only [okW, Bool.and_eq_true] at hB
    obtain ⟨⟨hr, hf⟩, hB'⟩ := hB
    unfold vcWl at h
    split at h
    case h_2 => exact h.elim
    rename_i o h0
    rw [h0] at hf
    simp only [Bool.and_eq_true, Bool.or_eq_true, beq_iff_eq] at hf
    exact anyW_one h0 hr hf.2 (operG_mono vcB_good (fun v st' h' => anyW_list n l _ _ _ hB' h') h)
theorem operB_sound (hT : T.Ok P) {D : List Deferred} {o : Oper} {fr : Fr} {a : Act} {K : Fr → St → Prop} {Kc : Act → World → Prop} {Q : Exit → Act → World → Prop} (h : Ok base J w0 st μ σ w) (hf : FrAt base J st μ σ w fr a.tmps) (hdf : a.defers = D)
    (hk : ∀ a' w', Rel base J w0 st μ σ w K a' w' D → Kc a' w') (hv : operG (vcB P T) ops o fr st K) : if Region.wanted o (yielded ops a.tmps) then o.wp P a w Kc Q ∨ (o.asks P a w ∧ LetsOut Q) else Kc (a.put o.dst undef) w := by
  by_cases hb : ∃ t n ps, o.op = .buildSlice t n ps
  · obtain ⟨t, n, ps, e⟩ := hb
    refine vcOperY_sound (bv := true) (Z := fun _ _ _ => False) hT h hf hdf hk (fun ch a' w' hr => by obtain ⟨_, _, _, _, h, _⟩ := hr; exact h.elim) (vcOperY_iff.2 ?_)
    unfold operG at hv
    rw [e] at hv ⊢
    exact hv
  · refine vcOper_sound hT h hf hdf hk (operG_iff.2 ?_)
    unfold operG at hv ⊢
    have e : ∀ K, vcB P T o.op fr.ev st K = vcOp P T o.op fr.ev st K := fun K => by
      cases ho : o.op with
      | buildSlice t n ps => exact absurd ⟨t, n, ps, ho⟩ hb
      | _ => rfl
    rw [e] at hv
    exact hv
theorem anyW_sound (hT : T.Ok P) {D : List Deferred} {Q : Exit → Act → World → Prop} {K : Fr → St → Prop} : ∀ (n : Nat) (listed : Array Bool) {st : St} {μ : Nat → Nat} {σ : Nat → Tkt} {w : World} {fr : Fr} {a : Act}, Ok base J w0 st μ σ w → FrAt base J st μ σ w fr a.tmps → a.defers = D →
    (∀ a' w', Rel base J w0 st μ σ w K a' w' D → Q .normal a' w') → anyG (fun _ => vcB P T) ops K n listed fr st → wpAny P .any ops Q n listed a w
  | 0, listed, st, μ, σ, w, fr, a, h, hf, hd, hk, hv => ⟨hv.1, hk _ _ ⟨fr, st, μ, σ, hv.2, h, .refl, hf, hd⟩⟩
  | n + 1, listed, st, μ, σ, w, fr, a, h, hf, hd, hk, hv => by
    refine ⟨fun h0 => hk _ _ ⟨fr, st, μ, σ, hv.1 h0, h, .refl, hf, hd⟩, fun i hi => ?_⟩
    obtain ⟨o, ho, hv⟩ := hv.2 i hi
    unfold wpOp
    simp only [ho]
    refine operB_sound hT h hf hd (fun a' w' hr => ?_) hv
    obtain ⟨fr', st', μ', σ', q1, q2, q3, q4, q5⟩ := hr
    exact anyW_sound hT n _ q2 q4 q5 (fun a'' w'' hr => hk _ _ (hr.ext q3)) q1
theorem sem1_W (hT : T.Ok P) (hm : P.follows .mixedOrders = true) {id : Nat} {Q : Exit → Fr → St → Prop} {fr : Fr} {st : St} (l : List Nat) (hok : okW ops ops.size l (Array.replicate ops.size false) = true) (h : vcWl P T ops (fun fr' st' => Q .normal fr' st') l fr st) : Sem1 P (.region id ops true) Q fr st := by
  intro base J w0 μ σ a w D hO hf hd
  obtain ⟨ok', ext'⟩ := hO.step (below_drew w)
  refine wp_region_any hm ?_
  exact anyW_sound hT _ _ ok' (hf.ext ext') hd (fun _ _ hr => by
    obtain ⟨fr1, st1, μ1, σ1, q1, q2, q3, q4, q5⟩ := hr
    exact ⟨fr1, st1, μ1, σ1, q1, q2, ext'.trans q3, q4, q5⟩) (anyW_list _ _ _ _ _ hok h)
end
end Go.Proofs.YthnmbfiandpedaaGreatDoor
