/- The conditions over abstract values: what follows from a condition follows from less; what a piece of code leaves alone. No statement of its own. -/
import Derived.Test.YtfhodppaelfcfaaDoorVb
namespace Go.Proofs.YtfhodppaelfcfaaDoor
open Go.RowKit

section
variable {P : Program} {T : Tab} {K K' : AV → St → Prop} {K1 K1' : AV → Prop}

theorem cnd_mono {b : Bool} {A B A' B' : Prop} (h1 : A → A') (h2 : B → B') (h : cnd b A B) : cnd b A' B' := by
  cases b
  · exact h2 h
  · exact h1 h
theorem binInt_mono (hk : ∀ v, K1 v → K1' v) {op : BinOp} {k : IntKind} {a b : Int} (h : binInt op k a b K1) : binInt op k a b K1' := by
  cases op <;> simp only [binInt] at h ⊢ <;> first | exact fun c hc => hk _ (h c hc) | exact ⟨h.1, fun c hc => hk _ (h.2 c hc)⟩ | exact ⟨h.1, hk _ h.2⟩ | exact hk _ h
theorem binStr_mono (hk : ∀ v, K1 v → K1' v) {op : BinOp} {a b : ByteArray} (h : binStr op a b K1) : binStr op a b K1' := by
  cases op <;> simp only [binStr] at h ⊢ <;> first | exact fun c hc => hk _ (h c hc) | exact ⟨h.1, hk _ h.2⟩ | exact hk _ h
theorem eqlB_mono (hk : ∀ v, K1 v → K1' v) {op : BinOp} {t : Bool} (h : eqlB op t K1) : eqlB op t K1' := by
  cases op <;> simp only [eqlB] at h ⊢ <;> exact hk _ h
theorem vcBin_mono (hk : ∀ v, K1 v → K1' v) {op : BinOp} {t : TypeId} {x y : AV} (h : vcBin P T op t x y K1) : vcBin P T op t x y K1' := by
  revert h
  unfold vcBin
  repeat' split
  all_goals intro h
  all_goals first | exact binInt_mono hk h | exact binStr_mono hk h | exact eqlB_mono hk h | exact ⟨h.1, fun q hq => eqlB_mono hk (h.2 q hq)⟩ | exact h.elim | exact h.2.elim
theorem vcUn_mono (hk : ∀ v, K1 v → K1' v) {op : UnOp} {x : AV} (h : vcUn op x K1) : vcUn op x K1' := by
  revert h
  unfold vcUn
  split <;> intro h <;> first | exact hk _ h | exact fun c hc => hk _ (h c hc) | exact h.elim
theorem ldA_mono (hk : ∀ v, K1 v → K1' v) {i : TI} {cs : List AV} {off : Nat} (h : ldA i cs off K1) : ldA i cs off K1' := by
  revert h
  unfold ldA
  split <;> (try split) <;> intro h <;> first | exact listK_iff.2 (hk _ (listK_iff.1 h)) | exact hk _ h | exact h.elim
theorem vcExt_mono (hk : ∀ v, K1 v → K1' v) {x : AV} {i : Nat} (h : vcExt x i K1) : vcExt x i K1' := by
  revert h
  unfold vcExt
  split <;> (try split) <;> intro h <;> first | exact hk _ h | exact h.elim
theorem vcLenS_mono (hk : ∀ v, K1 v → K1' v) {x : AV} (h : vcLenS x K1) : vcLenS x K1' := by
  revert h
  unfold vcLenS
  split <;> intro h <;> first | exact hk _ h | exact h.elim
theorem vcLenL_mono (hk : ∀ v, K1 v → K1' v) {x : AV} (h : vcLenL x K1) : vcLenL x K1' := by
  revert h
  unfold vcLenL
  split <;> intro h <;> first | exact hk _ h | exact h.elim
theorem srcA_mono {L L' : List (List AV) → Prop} (hk : ∀ v, L v → L' v) {st : St} {x : AV} {n : Nat} (h : srcA st x n L) : srcA st x n L' := by
  revert h
  unfold srcA
  split <;> (try split) <;> intro h <;> first | exact hk _ h | exact h.elim | (obtain ⟨cs, es, h1, h2, h3⟩ := h; exact ⟨cs, es, h1, h2, hk _ h3⟩)
theorem vcApp_mono (hk : ∀ v st, K v st → K' v st) {i : TI} {s x : AV} {st : St} (h : vcApp i s x st K) : vcApp i s x st K' := by
  refine srcA_mono (fun ys h => ?_) h
  revert h
  split <;> (try split) <;> intro h <;> first
    | exact ⟨fun e => hk _ _ (h.1 e), fun e => ⟨(h.2 e).1, (h.2 e).2.1, hk _ _ (h.2 e).2.2⟩⟩
    | exact ⟨fun e => hk _ _ (h.1 e), fun e => ⟨(h.2 e).1, (h.2 e).2.1, (h.2 e).2.2.imp (hk _ _) (fun g x hx => hk _ _ (g x hx))⟩⟩
    | exact ⟨fun e => hk _ _ (h.1 e), fun e => ⟨(h.2 e).1, (h.2 e).2.1, (h.2 e).2.2.imp (hk _ _) (fun g => ⟨g.1, fun x hx => hk _ _ (g.2 x hx)⟩)⟩⟩
    | exact ⟨fun e => hk _ _ (h.1 e), fun e => let ⟨b1, b2, cs, es, b3, b4, b5, b6⟩ := h.2 e; ⟨b1, b2, cs, es, b3, b4, fun x => ⟨(b5 x).1, hk _ _ (b5 x).2⟩, fun x y z => hk _ _ (b6 x y z)⟩⟩
    | exact ⟨h.1, h.2.1, h.2.2.1, hk _ _ h.2.2.2⟩
    | exact h.elim
theorem bndA_mono {L L' : Nat → Prop} (hk : ∀ v, L v → L' v) {x : Option AV} {d : Nat} (h : bndA x d L) : bndA x d L' := by
  revert h
  unfold bndA
  split <;> intro h <;> first | exact hk _ h | (obtain ⟨k, h1, h2⟩ := h; exact ⟨k, h1, hk _ h2⟩) | exact h.elim
theorem vcSlice_mono (hk : ∀ v, K1 v → K1' v) {t : TypeId} {x : AV} {lo hi : Option AV} (h : vcSlice T t x lo hi K1) : vcSlice T t x lo hi K1' := by
  revert h
  unfold vcSlice
  repeat' split
  all_goals intro h
  all_goals first
    | exact h.elim
    | (refine bndA_mono (fun _ h => bndA_mono (fun _ h => ?_) h) h; exact ⟨h.1, h.2.1, fun lo' hl => hk _ (h.2.2 lo' hl)⟩)
    | (refine bndA_mono (fun _ h => bndA_mono (fun _ h => ?_) h) h; exact ⟨h.1, h.2.1, hk _ h.2.2⟩)
    | exact bndA_mono (fun _ h => ⟨h.1, hk _ h.2⟩) h
theorem minA_mono (hk : ∀ v, K1 v → K1' v) {op : Int → Int → Int} : ∀ {r : List AV} {x : AV}, minA op x r K1 → minA op x r K1'
  | [], _, h => hk _ h
  | y :: r, x, h => by
    revert h
    unfold minA
    split
    · exact fun h => minA_mono hk h
    · exact fun h => h
theorem vcCall_mono (hk : ∀ v st, K v st → K' v st) {f : FuncId} {args : List AV} {st : St} (h : VCall P f args st K) : VCall P f args st K' := by
  rcases h with ⟨h0, h1, h2⟩ | ⟨h0, h3, h1, h2⟩ | ⟨h0, h3, h1, h2⟩ | ⟨h1, h2⟩
  · exact .p h0 h1 (hk _ _ h2)
  · exact .w h0 h3 h1 (hk _ _ h2)
  · exact .t h0 h3 h1 (hk _ _ h2)
  · refine .s ⟨h1, fun base J w0 μ σ w vs a b c => (h2 base J w0 μ σ w vs a b c).mono ?_⟩
    rintro e w' ⟨v, r, st', μ', σ', q1, q2, q3⟩
    exact ⟨v, r, st', μ', σ', q1, hk _ _ q2, q3⟩

theorem vcOp_mono (hk : ∀ v st, K v st → K' v st) {o : Op} {ρ : Operand → AV} {st : St} (h : vcOp P T o ρ st K) : vcOp P T o ρ st K' := by
  cases o <;> simp only [vcOp, AV.fc_iff, listK_iff, listLK_iff] at h ⊢ <;> try exact hk _ _ h
  case pick c a b =>
    revert h
    split <;> intro h
    · exact cnd_mono (hk _ _) (hk _ _) h
    · exact h
  case alloc t =>
    revert h
    repeat' split
    all_goals intro h
    all_goals first | exact hk _ _ h | exact h
  case box t x =>
    revert h
    repeat' split
    all_goals intro h
    all_goals first | (rw [olderA_iff] at h ⊢; exact ⟨h.1, hk _ _ h.2⟩) | exact h
  case build t parts =>
    revert h
    repeat' split
    all_goals intro h
    all_goals first | exact hk _ _ h | exact h
  case buildSlice t len parts =>
    revert h
    repeat' split
    all_goals intro h
    all_goals first | exact hk _ _ h | exact h
  case load t a =>
    revert h
    repeat' split
    all_goals intro h
    all_goals first | (obtain ⟨cs, h1, h2⟩ := h; exact ⟨cs, h1, ldA_mono (fun v => hk v st) h2⟩) | exact ldA_mono (fun v => hk v st) h | exact h
  case store t a x =>
    revert h
    repeat' split
    all_goals intro h
    all_goals first | (obtain ⟨cs, h1, h2⟩ := h; refine ⟨cs, h1, ?_⟩; revert h2; split <;> intro h2; exact hk _ _ h2; exact h2) | exact h
  case nilCheck x =>
    revert h
    repeat' split
    all_goals intro h
    all_goals first | exact hk _ _ h | exact h
  case binOp op t x y ty => exact vcBin_mono (fun v => hk v st) h
  case unOp op t x => exact vcUn_mono (fun v => hk v st) h
  case convert src dst x =>
    revert h
    repeat' split
    all_goals intro h
    all_goals first | exact hk _ _ h | exact fun c hc => hk _ _ (h c hc) | exact ⟨h.1, hk _ _ h.2⟩ | (obtain ⟨b, h1, h2⟩ := h; exact ⟨b, h1, hk _ _ h2⟩) | (obtain ⟨cs, b, h1, h2, h3, h4⟩ := h; exact ⟨cs, b, h1, h2, h3, hk _ _ h4⟩) | exact h
  case slice t x lo hi mx =>
    cases mx with
    | none => exact vcSlice_mono (fun v => hk v st) h
    | some m => exact h
  case fieldAddr s x f =>
    revert h
    repeat' split
    all_goals intro h
    all_goals first | exact hk _ _ h | exact h
  case field s x f =>
    revert h
    repeat' split
    all_goals intro h
    all_goals first | exact ldA_mono (fun v => hk v st) h | exact h
  case indexAddr t x ix =>
    revert h
    repeat' split
    all_goals intro h
    all_goals first | (obtain ⟨j, e, h1, h2, h3⟩ := h; exact ⟨j, e, h1, h2, hk _ _ h3⟩) | (obtain ⟨j, h1, h2, h3⟩ := h; exact ⟨j, h1, h2, hk _ _ h3⟩) | exact h
  case index t x ix =>
    revert h
    repeat' split
    all_goals intro h
    all_goals first | (obtain ⟨j, e, h1, h2⟩ := h; exact ⟨j, e, h1, hk _ _ h2⟩) | exact h
  case extract x i => exact vcExt_mono (fun v => hk v st) h
  case call c =>
    revert h
    repeat' split
    all_goals intro h
    all_goals first | exact vcLenS_mono (fun v => hk v st) h | exact vcLenL_mono (fun v => hk v st) h | exact minA_mono (fun v => hk v st) h | exact vcApp_mono hk h | exact vcCall_mono hk h | (obtain ⟨cs, h1, h2, h3⟩ := h; exact ⟨cs, h1, h2, hk _ _ h3⟩) | exact h

/-- the same, the frame as it is -/
def guard0 (ops : Array Oper) (g : Option (Nat × Bool)) (fr : Fr) (A B : Prop) : Prop :=
  match g with
  | none => A
  | some (j, want) => match (ops[j]?).bind (·.dst) with
    | none => False
    | some d => match fr[d]? with
      | some (.lit (.bool b)) => match want with | true => cnd b A B | false => cnd b B A
      | some (.lit (.tuple _)) => B
      | _ => False
theorem set_self {fr : Fr} {d : Nat} {v : AV} (h : fr[d]? = some v) : fr.set d v = fr := by
  apply List.ext_getElem?
  intro i
  by_cases e : d = i
  · subst e
    rw [List.getElem?_set_self (List.getElem?_eq_some_iff.1 h).1, h]
  · rw [List.getElem?_set_ne e]
theorem guardA_iff {ops : Array Oper} {g : Option (Nat × Bool)} {fr : Fr} {A B : Fr → Prop} : guardA ops g fr A B ↔ guard0 ops g fr (A fr) (B fr) := by
  cases g with
  | none => exact Iff.rfl
  | some jw =>
    obtain ⟨j, want⟩ := jw
    cases hd : (ops[j]?).bind (·.dst) with
    | none => simp only [guardA, guard0, hd]
    | some d =>
      cases hf : fr[d]? with
      | none => simp only [guardA, guard0, hd, hf]
      | some a =>
        cases a with
        | lit v =>
          cases v with
          | bool b => cases b <;> cases want <;> simp only [guardA, guard0, hd, hf, cnd, AV.b, setK_iff, set_self hf]
          | _ => simp only [guardA, guard0, hd, hf]
        | _ => simp only [guardA, guard0, hd, hf]
theorem guard0_mono {ops : Array Oper} {g : Option (Nat × Bool)} {fr : Fr} {A B A' B' : Prop} (h1 : A → A') (h2 : B → B') (h : guard0 ops g fr A B) : guard0 ops g fr A' B' := by
  revert h
  unfold guard0
  repeat' split
  all_goals intro h
  all_goals first | exact h1 h | exact h2 h | exact cnd_mono h1 h2 h | exact cnd_mono h2 h1 h | exact h
theorem guardA_mono {ops : Array Oper} {g : Option (Nat × Bool)} {fr : Fr} {A B A' B' : Fr → Prop} (h1 : A fr → A' fr) (h2 : B fr → B' fr) (h : guardA ops g fr A B) : guardA ops g fr A' B' :=
  guardA_iff.2 (guard0_mono h1 h2 (guardA_iff.1 h))
theorem vcOper_iff {L : Fr → St → Prop} {ops : Array Oper} {o : Oper} {fr : Fr} {st : St} : vcOper P T ops o fr st L ↔ guard0 ops o.guard fr (vcOp P T o.op fr.ev st fun v st' => L (fr.put o.dst v) st') (L (fr.put o.dst .un) st) := by
  unfold vcOper
  rw [guardA_iff]
  simp only [Fr.putK_iff]
theorem vcOper_mono {L L' : Fr → St → Prop} {ops : Array Oper} {o : Oper} {fr : Fr} {st : St} (h1 : ∀ v st', L (fr.put o.dst v) st' → L' (fr.put o.dst v) st') (h : vcOper P T ops o fr st L) : vcOper P T ops o fr st L' :=
  vcOper_iff.2 (guard0_mono (fun h => vcOp_mono (fun v st' => h1 v st') h) (fun h => h1 _ _ h) (vcOper_iff.1 h))

theorem Keep.refl (W : List Nat) (fr : Fr) : Keep W fr fr := ⟨rfl, fun _ _ => rfl⟩
theorem Keep.trans {W : List Nat} {a b c : Fr} (h : Keep W a b) (k : Keep W b c) : Keep W a c := ⟨h.1.trans k.1, fun i hi => (k.2 i hi).trans (h.2 i hi)⟩
theorem Keep.put {W : List Nat} (fr : Fr) (d : Option Tmp) (v : AV) (hd : ∀ x, d = some x → x ∈ W) : Keep W fr (fr.put d v) := by
  cases d with
  | none => exact .refl _ _
  | some d =>
    refine ⟨by simp [Fr.put], fun i hi => ?_⟩
    have hne : d ≠ i := fun e => hi (by subst e; exact hd _ rfl)
    exact List.getElem?_set_ne hne
theorem Keep.mono {W W' : List Nat} {a b : Fr} (h : Keep W a b) (hs : ∀ i, i ∈ W → i ∈ W') : Keep W' a b := ⟨h.1, fun i hi => h.2 i (fun hw => hi (hs i hw))⟩

theorem mem_dsts {ops : Array Oper} {o : Oper} (ho : o ∈ ops.toList) {d : Tmp} (hd : o.dst = some d) : d ∈ dsts ops := List.mem_filterMap.2 ⟨o, ho, hd⟩

theorem vcOps_keeps {L : Fr → St → Prop} {ops : Array Oper} {W : List Nat} : ∀ (l : List Oper) {fr : Fr} {st : St}, (∀ o ∈ l, ∀ d, o.dst = some d → d ∈ W) → vcOps P T ops l fr st L → vcOps P T ops l fr st fun fr' st' => L fr' st' ∧ Keep W fr fr'
  | [], fr, st, _, h => ⟨h, .refl _ _⟩
  | o :: l, fr, st, hw, h => by
    refine vcOper_mono (fun v st' h => ?_) h
    have hk : Keep W fr (fr.put o.dst v) := .put _ _ _ (hw o List.mem_cons_self)
    have := vcOps_keeps l (fun o' ho' => hw o' (List.mem_cons_of_mem _ ho')) h
    exact vcOps_mono l (fun fr' st' h => ⟨h.1, hk.trans h.2⟩) this
where
  vcOps_mono {L L' : Fr → St → Prop} : ∀ (l : List Oper) {fr : Fr} {st : St}, (∀ fr st, L fr st → L' fr st) → vcOps P T ops l fr st L → vcOps P T ops l fr st L'
    | [], _, _, hk, h => hk _ _ h
    | _ :: l, _, _, hk, h => vcOper_mono (fun _ _ h => vcOps_mono l hk h) h
theorem vcAny_mono {L L' : Fr → St → Prop} {ops : Array Oper} : ∀ (n : Nat) (listed : Array Bool) {fr : Fr} {st : St}, (∀ fr st, L fr st → L' fr st) → vcAny P T ops L n listed fr st → vcAny P T ops L' n listed fr st
  | 0, listed, fr, st, hk, h => by
    revert h
    unfold vcAny
    split
    · exact hk _ _
    · exact fun h => h
  | n + 1, listed, fr, st, hk, h => by
    revert h
    unfold vcAny
    split
    · exact hk _ _
    · intro h j hj
      obtain ⟨o, ho, hv⟩ := h j hj
      exact ⟨o, ho, vcOper_mono (fun _ _ h => vcAny_mono n _ hk h) hv⟩
theorem vcAny_keeps {L : Fr → St → Prop} {ops : Array Oper} : ∀ (n : Nat) (listed : Array Bool) {fr : Fr} {st : St}, vcAny P T ops L n listed fr st → vcAny P T ops (fun fr' st' => L fr' st' ∧ Keep (dsts ops) fr fr') n listed fr st
  | 0, listed, fr, st, h => by
    revert h
    unfold vcAny
    split
    · exact fun h => ⟨h, .refl _ _⟩
    · exact fun h => h
  | n + 1, listed, fr, st, h => by
    revert h
    unfold vcAny
    split
    · exact fun h => ⟨h, .refl _ _⟩
    · intro h j hj
      obtain ⟨o, ho, hv⟩ := h j hj
      refine ⟨o, ho, vcOper_mono (fun v st' h => ?_) hv⟩
      have hmem : o ∈ ops.toList := Array.mem_toList_iff.2 (Array.mem_of_getElem? ho)
      have hk : Keep (dsts ops) fr (fr.put o.dst v) := .put _ _ _ (fun d hd => mem_dsts hmem hd)
      exact vcAny_mono n _ (fun fr' st' h => ⟨h.1, hk.trans h.2⟩) (vcAny_keeps n _ h)

theorem callP_mono (hk : ∀ v st, K v st → K' v st) {f : FuncId} {args : List AV} {st : St} (h : callP P f args st K) : callP P f args st K' := by
  rcases h with ⟨h0, h1, h2⟩ | ⟨h0, h3, h1, h2⟩
  · exact .p h0 h1 (hk _ _ h2)
  · exact .w h0 h3 h1 (hk _ _ h2)
/-- no row that is turned in place is appended to -/
def okE (o : Op) (ρ : Operand → AV) : Prop :=
  match o with
  | .call c => match c.callee with
    | .builtin .append => match c.args.toList with
      | s :: _ => match ρ s with
        | .hs _ _ _ _ _ => False
        | _ => True
      | _ => False
    | .builtin _ => True
    | _ => False
  | _ => True
theorem vcOpE_iff {o : Op} {ρ : Operand → AV} {st : St} {K : AV → St → Prop} : vcOpE P T o ρ st K ↔ okE o ρ ∧ vcOp P T o ρ st K := by
  cases o with
  | call c =>
    cases hc : c.callee with
    | builtin b =>
      cases b
      case append =>
        cases hl : c.args.toList with
        | nil => simp [vcOpE, okE, hc, hl]
        | cons s r =>
          cases hs : ρ s <;> simp [vcOpE, okE, hc, hl, hs]
      all_goals simp [vcOpE, okE, hc]
    | _ => simp [vcOpE, okE, hc]
  | _ => simp [vcOpE, okE]
theorem vcOpE_mono (hk : ∀ v st, K v st → K' v st) {o : Op} {ρ : Operand → AV} {st : St} (h : vcOpE P T o ρ st K) : vcOpE P T o ρ st K' :=
  vcOpE_iff.2 ⟨(vcOpE_iff.1 h).1, vcOp_mono hk (vcOpE_iff.1 h).2⟩
theorem vcOpX_mono (hk : ∀ v st, K v st → K' v st) {o : Op} {ρ : Operand → AV} {st : St} (h : vcOpX P T o ρ st K) : vcOpX P T o ρ st K' := by
  revert h
  unfold vcOpX
  repeat' split
  all_goals intro h
  all_goals first | exact callP_mono hk h | exact vcOpE_mono hk h | exact vcOp_mono hk h | exact h
theorem vcOperX_iff {L : Fr → St → Prop} {ops : Array Oper} {o : Oper} {fr : Fr} {st : St} : vcOperX P T ops o fr st L ↔ guard0 ops o.guard fr (vcOpX P T o.op fr.ev st fun v st' => L (fr.put o.dst v) st') (L (fr.put o.dst .un) st) := by
  unfold vcOperX
  rw [guardA_iff]
  simp only [Fr.putK_iff]
theorem vcOperX_mono {L L' : Fr → St → Prop} {ops : Array Oper} {o : Oper} {fr : Fr} {st : St} (h1 : ∀ v st', L (fr.put o.dst v) st' → L' (fr.put o.dst v) st') (h : vcOperX P T ops o fr st L) : vcOperX P T ops o fr st L' :=
  vcOperX_iff.2 (guard0_mono (fun h => vcOpX_mono (fun v st' => h1 v st') h) (fun h => h1 _ _ h) (vcOperX_iff.1 h))
theorem vcOpsX_mono {L L' : Fr → St → Prop} {ops : Array Oper} : ∀ (l : List Oper) {fr : Fr} {st : St}, (∀ fr st, L fr st → L' fr st) → vcOpsX P T ops l fr st L → vcOpsX P T ops l fr st L'
  | [], _, _, hk, h => hk _ _ h
  | _ :: l, _, _, hk, h => vcOperX_mono (fun _ _ h => vcOpsX_mono l hk h) h
theorem vcOpsX_keeps {L : Fr → St → Prop} {ops : Array Oper} {W : List Nat} : ∀ (l : List Oper) {fr : Fr} {st : St}, (∀ o ∈ l, ∀ d, o.dst = some d → d ∈ W) → vcOpsX P T ops l fr st L → vcOpsX P T ops l fr st fun fr' st' => L fr' st' ∧ Keep W fr fr'
  | [], fr, st, _, h => ⟨h, .refl _ _⟩
  | o :: l, fr, st, hw, h => by
    refine vcOperX_mono (fun v st' h => ?_) h
    have hk : Keep W fr (fr.put o.dst v) := .put _ _ _ (hw o List.mem_cons_self)
    have := vcOpsX_keeps l (fun o' ho' => hw o' (List.mem_cons_of_mem _ ho')) h
    exact vcOpsX_mono l (fun fr' st' h => ⟨h.1, hk.trans h.2⟩) this
theorem callN_mono (hk : ∀ v st, K v st → K' v st) {f : FuncId} {args : List AV} {st : St} (h : callN P f args st K) : callN P f args st K' := by
  rcases h with ⟨h0, h1, h2⟩ | ⟨h0, h3, h1, h2⟩ | ⟨h1, h2⟩
  · exact .p h0 h1 (hk _ _ h2)
  · exact .w h0 h3 h1 (hk _ _ h2)
  · refine .s ⟨h1, fun base J w0 μ σ w vs a b c => (h2 base J w0 μ σ w vs a b c).mono ?_⟩
    rintro e w' ⟨v, r, st', μ', σ', q1, q2, q3⟩
    exact ⟨v, r, st', μ', σ', q1, ⟨q2.1, hk _ _ q2.2⟩, q3⟩
theorem vcOpN_mono (hk : ∀ v st, K v st → K' v st) {o : Op} {ρ : Operand → AV} {st : St} (h : vcOpN P T o ρ st K) : vcOpN P T o ρ st K' := by
  revert h
  unfold vcOpN
  repeat' split
  all_goals intro h
  all_goals first | exact callN_mono hk h | exact vcOpE_mono hk h | exact vcOp_mono hk h | exact h
theorem vcOperN_iff {L : Fr → St → Prop} {ops : Array Oper} {o : Oper} {fr : Fr} {st : St} : vcOperN P T ops o fr st L ↔ guard0 ops o.guard fr (vcOpN P T o.op fr.ev st fun v st' => L (fr.put o.dst v) st') (L (fr.put o.dst .un) st) := by
  unfold vcOperN
  rw [guardA_iff]
  simp only [Fr.putK_iff]
theorem vcOperN_mono {L L' : Fr → St → Prop} {ops : Array Oper} {o : Oper} {fr : Fr} {st : St} (h1 : ∀ v st', L (fr.put o.dst v) st' → L' (fr.put o.dst v) st') (h : vcOperN P T ops o fr st L) : vcOperN P T ops o fr st L' :=
  vcOperN_iff.2 (guard0_mono (fun h => vcOpN_mono (fun v st' => h1 v st') h) (fun h => h1 _ _ h) (vcOperN_iff.1 h))
theorem vcPlan_mono {L L' : Fr → St → Prop} {ops : Array Oper} : ∀ (p : Plan) {fr : Fr} {st : St}, (∀ fr st, L fr st → L' fr st) → vcPlan P T ops L p fr st → vcPlan P T ops L' p fr st
  | .done, _, _, hk, h => hk _ _ h
  | .one k p, fr, st, hk, h => by
    revert h
    unfold vcPlan
    split
    · exact vcOperN_mono fun _ _ h => vcPlan_mono p hk h
    · exact fun h => h
  | .only k p, fr, st, hk, h => by
    revert h
    unfold vcPlan
    split
    · exact vcOper_mono fun _ _ h => vcPlan_mono p hk h
    · exact fun h => h
  | .two j k p q, fr, st, hk, h => by
    revert h
    unfold vcPlan
    refine fun h => ⟨?_, ?_⟩
    · revert h
      split
      · exact fun h => vcOperN_mono (fun _ _ h => vcPlan_mono p hk h) h.1
      · exact fun h => h.1
    · have h := h.2
      revert h
      split
      · exact vcOperN_mono fun _ _ h => vcPlan_mono q hk h
      · exact fun h => h
theorem vcPlan_keeps {L : Fr → St → Prop} {ops : Array Oper} : ∀ (p : Plan) {fr : Fr} {st : St}, vcPlan P T ops L p fr st → vcPlan P T ops (fun fr' st' => L fr' st' ∧ Keep (dsts ops) fr fr') p fr st := by
  have one : ∀ (k : Nat) (p : Plan) (fr : Fr) (st : St) (o : Oper), ops[k]? = some o → (∀ {fr : Fr} {st : St}, vcPlan P T ops L p fr st → vcPlan P T ops (fun fr' st' => L fr' st' ∧ Keep (dsts ops) fr fr') p fr st) →
      vcOperN P T ops o fr st (fun fr' st' => vcPlan P T ops L p fr' st') → vcOperN P T ops o fr st (fun fr' st' => vcPlan P T ops (fun fr' st' => L fr' st' ∧ Keep (dsts ops) fr fr') p fr' st') := by
    intro k p fr st o ho ih h
    refine vcOperN_mono (fun v st' h => ?_) h
    have hmem : o ∈ ops.toList := Array.mem_toList_iff.2 (Array.mem_of_getElem? ho)
    have hk : Keep (dsts ops) fr (fr.put o.dst v) := .put _ _ _ (fun d hd => mem_dsts hmem hd)
    exact vcPlan_mono p (fun fr' st' h => ⟨h.1, hk.trans h.2⟩) (ih h)
  intro p
  induction p with
  | done => intro fr st h; exact ⟨h, .refl _ _⟩
  | one k p ih =>
    intro fr st h
    revert h
    unfold vcPlan
    split
    · rename_i o ho
      exact one k p fr st o ho ih
    · exact fun h => h
  | only k p ih =>
    intro fr st h
    revert h
    unfold vcPlan
    split
    · rename_i o ho
      intro h
      refine vcOper_mono (fun v st' h => ?_) h
      have hmem : o ∈ ops.toList := Array.mem_toList_iff.2 (Array.mem_of_getElem? ho)
      have hk : Keep (dsts ops) fr (fr.put o.dst v) := .put _ _ _ (fun d hd => mem_dsts hmem hd)
      exact vcPlan_mono p (fun fr' st' h => ⟨h.1, hk.trans h.2⟩) (ih h)
    · exact fun h => h
  | two j k p q ihp ihq =>
    intro fr st h
    revert h
    unfold vcPlan
    refine fun h => ⟨?_, ?_⟩
    · have h := h.1
      revert h
      split
      · rename_i o ho
        exact one j p fr st o ho ihp
      · exact fun h => h
    · have h := h.2
      revert h
      split
      · rename_i o ho
        exact one k q fr st o ho ihq
      · exact fun h => h
theorem vcDraw_mono {L L' : Fr → St → Prop} {ops : Array Oper} {fr : Fr} {st : St} (hk : ∀ fr st, L fr st → L' fr st) : VDraw P T ops L fr st → VDraw P T ops L' fr st
  | .e h hv => .e h (vcOpsX_mono _ hk hv)
  | .x h hv => .x h (vcOpsX_mono _ hk hv)
  | .any hv => .any (vcAny_mono _ _ hk hv)
  | .n p h hv => .n p h (vcPlan_mono p hk hv)
  | .cut p K' h hv hc => .cut p K' h hv fun fr' st' h' hk' => let ⟨fr0, h1, h2⟩ := hc fr' st' h' hk'; ⟨fr0, h1, hk _ _ h2⟩
theorem Keep.le {W : List Nat} {a b c : Fr} (h : Keep W a b) (k : Fr.le W b c) : Keep W a c := by
  have hk1 : b.length = c.length := k.1
  refine ⟨h.1.trans k.1, fun i hi => ?_⟩
  rw [← h.2 i hi]
  by_cases hl : i < b.length
  · have h1 : b[i]? = some b[i] := List.getElem?_eq_getElem hl
    have h2 : c[i]? = some (c[i]'(by rw [← hk1]; exact hl)) := List.getElem?_eq_getElem _
    rcases k.2 i _ _ h1 h2 with e | ⟨e, _⟩
    · rw [h1, h2, e]
    · exact absurd e hi
  · rw [List.getElem?_eq_none (by omega), List.getElem?_eq_none (by omega)]
theorem vcDraw_keeps {L : Fr → St → Prop} {ops : Array Oper} {fr : Fr} {st : St} : VDraw P T ops L fr st → VDraw P T ops (fun fr' st' => L fr' st' ∧ Keep (dsts ops) fr fr') fr st
  | .e h hv => .e h (vcOpsX_keeps _ (fun _ ho _ hd => mem_dsts ho hd) hv)
  | .x h hv => .x h (vcOpsX_keeps _ (fun _ ho _ hd => mem_dsts ho hd) hv)
  | .any hv => .any (vcAny_keeps _ _ hv)
  | .n p h hv => .n p h (vcPlan_keeps p hv)
  | .cut p K' h hv hc => .cut p K' h hv fun fr' st' h' hk' => let ⟨fr0, h1, h2⟩ := hc fr' st' h' hk'; ⟨fr0, h1, h2, hk'.le h1⟩

theorem Fr.le_refl (W : List Nat) (fr : Fr) : Fr.le W fr fr := ⟨rfl, fun i a b h1 h2 => .inl (by rw [h1] at h2; exact (Option.some.inj h2).symm)⟩
theorem vc_mono : ∀ (c : Code) {Q Q' : Exit → Fr → St → Prop} {fr : Fr} {st : St}, (∀ e fr st, Q e fr st → Q' e fr st) → vc P T c Q fr st → vc P T c Q' fr st := by
  intro c
  induction c with
  | skip => intro Q Q' fr st hk h; exact hk _ _ _ h
  | label l => intro Q Q' fr st hk h; exact hk _ _ _ h
  | exit id => intro Q Q' fr st hk h; exact hk _ _ _ h
  | ret => intro Q Q' fr st hk h; exact hk _ _ _ h
  | region id ops draw =>
    intro Q Q' fr st hk h
    cases draw with
    | false => exact vcOps_keeps.vcOps_mono _ (fun fr st => hk _ fr st) h
    | true =>
      have h' : VDraw P T ops (fun fr' st' => Q .normal fr' st') fr st := h
      show VDraw P T ops (fun fr' st' => Q' .normal fr' st') fr st
      exact vcDraw_mono (fun fr st => hk _ fr st) h'
  | seq x y ihx ihy =>
    intro Q Q' fr st hk h
    refine ihx (fun e fr st hq => ?_) h
    cases e with
    | normal => exact ihy hk hq
    | _ => exact hk _ _ _ hq
  | cond c x y ihx ihy =>
    intro Q Q' fr st hk h
    revert h
    simp only [vc]
    split
    · exact cnd_mono (ihx hk) (ihy hk)
    · exact fun h => h
  | block id b ih =>
    intro Q Q' fr st hk h
    refine ih (fun e fr st hq => ?_) h
    cases e with
    | exit id' =>
      revert hq
      simp only [blockQ]
      split
      · exact hk _ _ _
      · exact hk _ _ _
    | _ => exact hk _ _ _ hq
  | loop b ih =>
    intro Q Q' fr st hk h
    obtain ⟨I, h0, hr⟩ := h
    refine ⟨I, h0, fun g fr st hI => ih (fun e fr st hq => ?_) (hr g fr st hI)⟩
    cases e with
    | normal => exact hq
    | _ => obtain ⟨fr0, hl, hq⟩ := hq; exact ⟨fr0, hl, hk _ _ _ hq⟩
  | _ => intro Q Q' fr st hk h; exact h.elim

theorem vc_keeps : ∀ (c : Code) {Q : Exit → Fr → St → Prop} {fr : Fr} {st : St}, vc P T c Q fr st → vc P T c (fun e fr' st' => Q e fr' st' ∧ Keep (writes c) fr fr') fr st := by
  intro c
  induction c with
  | skip => intro Q fr st h; exact ⟨h, .refl _ _⟩
  | label l => intro Q fr st h; exact ⟨h, .refl _ _⟩
  | exit id => intro Q fr st h; exact ⟨h, .refl _ _⟩
  | ret => intro Q fr st h; exact ⟨h, .refl _ _⟩
  | region id ops draw =>
    intro Q fr st h
    cases draw with
    | false => exact vcOps_keeps _ (fun o ho d hd => mem_dsts ho hd) h
    | true =>
      have h' : VDraw P T ops (fun fr' st' => Q .normal fr' st') fr st := h
      show VDraw P T ops (fun fr' st' => Q .normal fr' st' ∧ Keep (dsts ops) fr fr') fr st
      exact vcDraw_keeps h'
  | seq x y ihx ihy =>
    intro Q fr st h
    refine vc_mono x (fun e fr1 st1 hq => ?_) (ihx h)
    cases e with
    | normal =>
      refine vc_mono y (fun e fr2 st2 hq2 => ?_) (ihy hq.1)
      exact ⟨hq2.1, (hq.2.mono fun i hi => List.mem_append_left _ hi).trans (hq2.2.mono fun i hi => List.mem_append_right _ hi)⟩
    | _ => exact ⟨hq.1, hq.2.mono fun i hi => List.mem_append_left _ hi⟩
  | cond c x y ihx ihy =>
    intro Q fr st h
    revert h
    simp only [vc]
    split
    · exact cnd_mono (fun h => vc_mono x (fun e fr st hq => ⟨hq.1, hq.2.mono fun i hi => List.mem_append_left _ hi⟩) (ihx h)) (fun h => vc_mono y (fun e fr st hq => ⟨hq.1, hq.2.mono fun i hi => List.mem_append_right _ hi⟩) (ihy h))
    · exact fun h => h
  | block id b ih =>
    intro Q fr st h
    refine vc_mono b (fun e fr1 st1 hq => ?_) (ih h)
    obtain ⟨hq, hk⟩ := hq
    cases e with
    | exit id' =>
      revert hq
      simp only [blockQ]
      split
      · exact fun hq => ⟨hq, hk⟩
      · exact fun hq => ⟨hq, hk⟩
    | _ => exact ⟨hq, hk⟩
  | loop b ih =>
    intro Q fr st h
    obtain ⟨I, ⟨g0, fr0, hle, hI⟩, hr⟩ := h
    have keep_le : ∀ {a b : Fr} {W : List Nat}, Fr.le W a b → Keep W a b := fun {a b W} hl => ⟨hl.1, fun i hi => by
      have hl1 := hl.1
      by_cases hlt : i < a.length
      · have h1 : a[i]? = some a[i] := List.getElem?_eq_getElem hlt
        have h2 : b[i]? = some (b[i]'(by have := hl.1; omega)) := List.getElem?_eq_getElem _
        rcases hl.2 i _ _ h1 h2 with e | ⟨hw, _⟩
        · rw [h1, h2, e]
        · exact absurd hw hi
      · rw [List.getElem?_eq_none (by omega), List.getElem?_eq_none (by omega)]⟩
    refine ⟨fun g fr1 st1 => I g fr1 st1 ∧ Keep (writes b) fr fr1, ⟨g0, fr0, hle, hI, keep_le hle⟩, fun g fr1 st1 hI1 => vc_mono b (fun e fr2 st2 hq => ?_) (ih (hr g fr1 st1 hI1.1))⟩
    obtain ⟨hq, hk⟩ := hq
    cases e with
    | normal =>
      obtain ⟨g', fr3, hlt, hle3, hI3⟩ := hq
      exact ⟨g', fr3, hlt, hle3, hI3, (hI1.2.trans hk).trans (keep_le hle3)⟩
    | _ => obtain ⟨fr3, hle3, hq⟩ := hq; exact ⟨fr3, hle3, hq, (hI1.2.trans hk).trans (keep_le hle3)⟩
  | _ => intro Q fr st h; exact h.elim

def memN : Nat → List Nat → Bool
  | _, [] => false
  | n, m :: r => match Nat.beq n m with | true => true | false => memN n r
theorem memN_iff {n : Nat} : ∀ {l : List Nat}, memN n l = true ↔ n ∈ l
  | [] => by simp [memN]
  | m :: r => by
    unfold memN
    split
    · rename_i h
      have h := Nat.eq_of_beq_eq_true h
      simp [h]
    · rename_i h
      have hne : n ≠ m := fun e => by rw [e, Nat.beq_refl] at h; cases h
      simp [memN_iff (l := r), hne]
/-- a frame at a loop's head: the slots that the loop writes are forgotten, but for those that live. -/
def topL (W : List Nat) : Nat → Fr → Fr
  | _, [] => []
  | n, a :: r => (match memN n W with | true => .top | false => a) :: topL W (n + 1) r
def tops (W : List Nat) (fr : Fr) : Fr := topL W 0 fr
def natsK : List Nat → (List Nat → Prop) → Prop
  | [], K => K []
  | n :: r, K => natsK r fun r' => K (n :: r')
theorem natsK_iff : ∀ {l : List Nat} {K : List Nat → Prop}, natsK l K ↔ K l
  | [], _ => Iff.rfl
  | n :: r, K => by
    unfold natsK
    exact natsK_iff
def sets : List Nat → List AV → Fr → Fr
  | i :: is, v :: vs, fr => sets is vs (fr.set i v)
  | _, _, fr => fr
def slots (is : List Nat) (fr : Fr) : List AV := is.map fun i => fr.getD i .un

theorem topL_len (W : List Nat) : ∀ (n : Nat) (fr : Fr), (topL W n fr).length = fr.length
  | _, [] => rfl
  | n, a :: r => by simp [topL, topL_len W (n + 1) r]
theorem topL_get (W : List Nat) : ∀ (n : Nat) (fr : Fr) (i : Nat) (a : AV), (topL W n fr)[i]? = some a → (n + i ∈ W ∧ a = .top) ∨ (n + i ∉ W ∧ fr[i]? = some a)
  | _, [], i, a, h => by simp [topL] at h
  | n, b :: r, 0, a, h => by
    simp only [topL, List.getElem?_cons_zero, Option.some.injEq] at h
    split at h
    · rename_i hm; exact .inl ⟨memN_iff.1 hm, h.symm⟩
    · rename_i hm; exact .inr ⟨(fun hw => by
        rw [Nat.add_zero] at hw
        rw [memN_iff.2 hw] at hm; cases hm), by simpa using h⟩
  | n, b :: r, i + 1, a, h => by
    simp only [topL, List.getElem?_cons_succ] at h
    have := topL_get W (n + 1) r i a h
    rw [show n + 1 + i = n + (i + 1) by omega] at this
    simpa using this
theorem tops_len (W : List Nat) (fr : Fr) : (tops W fr).length = fr.length := topL_len W 0 fr
theorem tops_get (W : List Nat) (fr : Fr) (i : Nat) (a : AV) (h : (tops W fr)[i]? = some a) : (i ∈ W ∧ a = .top) ∨ (i ∉ W ∧ fr[i]? = some a) := by
  have := topL_get W 0 fr i a h
  rwa [Nat.zero_add] at this
theorem sets_len : ∀ (is : List Nat) (vs : List AV) (fr : Fr), (sets is vs fr).length = fr.length
  | [], _, _ => rfl
  | _ :: _, [], _ => rfl
  | i :: is, v :: vs, fr => by rw [sets, sets_len is vs]; simp
theorem sets_get : ∀ (is : List Nat) (vs : List AV) (fr : Fr) (i : Nat) (a : AV), (sets is vs fr)[i]? = some a → (∃ (k : Nat), is[k]? = some i ∧ vs[k]? = some a) ∨ (fr[i]? = some a)
  | [], _, _, _, _, h => .inr h
  | _ :: _, [], _, _, _, h => .inr h
  | j :: is, v :: vs, fr, i, a, h => by
    rw [sets] at h
    rcases sets_get is vs _ i a h with ⟨k, h1, h2⟩ | h1
    · exact .inl ⟨k + 1, h1, h2⟩
    · by_cases e : j = i
      · subst e
        have hl := (List.getElem?_eq_some_iff.1 h1).1
        rw [List.length_set] at hl
        rw [List.getElem?_set_self hl] at h1
        exact .inl ⟨0, rfl, by simpa using h1⟩
      · rw [List.getElem?_set_ne e] at h1
        exact .inr h1

/-- a loop: what holds of the slots that live, with a number that every round lowers -/
def liveB (W : List Nat) (n : Nat) : List Nat → Bool
  | [] => true
  | i :: r => match memN i W with | true => (match Nat.ble (i + 1) n with | true => liveB W n r | false => false) | false => false
theorem liveB_iff {W : List Nat} {n : Nat} : ∀ {l : List Nat}, liveB W n l = true → ∀ i ∈ l, i ∈ W ∧ i < n
  | [], _, i, hi => by simp at hi
  | j :: r, h, i, hi => by
    unfold liveB at h
    split at h
    · rename_i h1
      split at h
      · rename_i h2
        rcases List.mem_cons.1 hi with rfl | hi
        · exact ⟨memN_iff.1 h1, Nat.le_of_ble_eq_true h2⟩
        · exact liveB_iff h i hi
      · cases h
    · cases h
theorem vc_loopG {b : Code} {Q : Exit → Fr → St → Prop} {fr : Fr} {st : St} (live : List Nat) (I : Nat → List AV → St → Prop) (Q' : Exit → Fr → St → Prop) (hQ : ∀ e fr' st', e ≠ .normal → Q' e fr' st' → Keep (writes b) fr fr' → ∃ fr0, Fr.le (writes b) fr' fr0 ∧ Q e fr0 st') (g0 : Nat) (hin : liveB (writes b) fr.length live = true) (h0 : I g0 (slots live fr) st)
    (round : ∀ g vals st, I g vals st → natsK (writes b) fun W => listK (sets live vals (topL W 0 fr)) fun fr1 => vc P T b (seqQ (fun fr' st' => ∃ g', g' < g ∧ I g' (slots live fr') st') Q') fr1 st) : VLoop (fun Q' fr' st' => vc P T b Q' fr' st') (writes b) Q fr st := by
  have hin := liveB_iff hin
  have round : ∀ g vals st, I g vals st → vc P T b (seqQ (fun fr' st' => ∃ g', g' < g ∧ I g' (slots live fr') st') Q') (sets live vals (tops (writes b) fr)) st := fun g vals st hI => listK_iff.1 (natsK_iff.1 (round g vals st hI))
  have le1 : ∀ (fr1 : Fr), Keep (writes b) fr fr1 → Fr.le (writes b) fr1 (sets live (slots live fr1) (tops (writes b) fr)) := by
    intro fr1 hk
    refine ⟨by rw [sets_len, tops_len]; exact hk.1.symm, fun i a c ha hc => ?_⟩
    rcases sets_get _ _ _ _ _ hc with ⟨k, h1, h2⟩ | h1
    · left
      simp only [slots, List.getElem?_map, h1, Option.map_some, Option.some.injEq] at h2
      rw [← h2, List.getD_eq_getElem?_getD, ha]; rfl
    · rcases tops_get _ _ _ _ h1 with ⟨h2, h3⟩ | ⟨h2, h3⟩
      · exact .inr ⟨h2, .inr (.inl h3)⟩
      · rw [← hk.2 i h2, ha] at h3
        exact .inl (Option.some.inj h3).symm
  refine ⟨fun g fr1 st1 => ∃ vals, I g vals st1 ∧ fr1 = sets live vals (tops (writes b) fr) ∧ vals.length = live.length, ⟨g0, _, le1 fr (.refl _ _), _, h0, rfl, by simp [slots]⟩, ?_⟩
  rintro g fr1 st1 ⟨vals, hI, rfl, hvl⟩
  refine vc_mono b (fun e fr2 st2 hq => ?_) (vc_keeps b (round g vals st1 hI))
  obtain ⟨hq, hk⟩ := hq
  have hkk : Keep (writes b) fr fr2 := ⟨by rw [← hk.1, sets_len, tops_len], fun i hi => by
      rw [hk.2 i hi]
      by_cases hl : i < fr.length
      · have h1 : (sets live vals (tops (writes b) fr))[i]? = some ((sets live vals (tops (writes b) fr))[i]'(by rw [sets_len, tops_len]; exact hl)) := List.getElem?_eq_getElem _
        rcases sets_get _ _ _ _ _ h1 with ⟨k, h2, _⟩ | h2
        · exact absurd (hin i (List.mem_of_getElem? h2)).1 hi
        · rcases tops_get _ _ _ _ h2 with ⟨h3, _⟩ | ⟨_, h3⟩
          · exact absurd h3 hi
          · rw [h1, h3]
      · rw [List.getElem?_eq_none (by rw [sets_len, tops_len]; omega), List.getElem?_eq_none (by omega)]⟩
  cases e with
  | normal =>
    obtain ⟨g', hlt, hI'⟩ := hq
    exact ⟨g', _, hlt, le1 fr2 hkk, _, hI', rfl, by simp [slots]⟩
  | _ => exact hQ _ _ _ (fun h => by cases h) hq hkk
theorem vc_loop {b : Code} {Q : Exit → Fr → St → Prop} {fr : Fr} {st : St} (live : List Nat) (I : Nat → List AV → St → Prop) (g0 : Nat) (hin : liveB (writes b) fr.length live = true) (h0 : I g0 (slots live fr) st)
    (round : ∀ g vals st, I g vals st → natsK (writes b) fun W => listK (sets live vals (topL W 0 fr)) fun fr1 => vc P T b (seqQ (fun fr' st' => ∃ g', g' < g ∧ I g' (slots live fr') st') Q) fr1 st) : VLoop (fun Q' fr' st' => vc P T b Q' fr' st') (writes b) Q fr st :=
  vc_loopG live I Q (fun _ fr' _ _ hq _ => ⟨fr', Fr.le_refl _ _, hq⟩) g0 hin h0 round
/-- an exit by the name id, as this says; other ones as that says -/
def exitQ (id : Nat) (K : Fr → St → Prop) (Q : Exit → Fr → St → Prop) : Exit → Fr → St → Prop
  | .exit id', fr, st => match Nat.beq id' id with | true => K fr st | false => Q (.exit id') fr st
  | e, fr, st => Q e fr st
/-- a loop: what holds of the slots that live at its head; and where it is left, just this -/
theorem vc_loopx {b : Code} {Q : Exit → Fr → St → Prop} {fr : Fr} {st : St} (id : Nat) (live : List Nat) (I : Nat → List AV → St → Prop) (g0 : Nat) (J : List AV → St → Prop) (hin : liveB (writes b) fr.length live = true) (h0 : I g0 (slots live fr) st)
    (round : ∀ g vals st, I g vals st → natsK (writes b) fun W => listK (sets live vals (topL W 0 fr)) fun fr1 => vc P T b (seqQ (fun fr' st' => ∃ g', g' < g ∧ I g' (slots live fr') st') (exitQ id (fun fr' st' => J (slots live fr') st') Q)) fr1 st)
    (rest : ∀ vals st, J vals st → natsK (writes b) fun W => listK (sets live vals (topL W 0 fr)) fun fr1 => Q (.exit id) fr1 st) : VLoop (fun Q' fr' st' => vc P T b Q' fr' st') (writes b) Q fr st := by
  refine vc_loopG live I _ (fun e fr2 st2 _ hq hk => ?_) g0 hin h0 round
  cases e with
  | exit id' =>
    simp only [exitQ] at hq
    split at hq
    · rename_i hid
      have hid := Nat.eq_of_beq_eq_true hid
      subst hid
      refine ⟨sets live (slots live fr2) (tops (writes b) fr), ⟨by rw [sets_len, tops_len]; exact hk.1.symm, fun i a c ha hc => ?_⟩, listK_iff.1 (natsK_iff.1 (rest _ _ hq))⟩
      rcases sets_get _ _ _ _ _ hc with ⟨k, h1, h2⟩ | h1
      · left
        simp only [slots, List.getElem?_map, h1, Option.map_some, Option.some.injEq] at h2
        rw [← h2, List.getD_eq_getElem?_getD, ha]; rfl
      · rcases tops_get _ _ _ _ h1 with ⟨h2, h3⟩ | ⟨h2, h3⟩
        · exact .inr ⟨h2, .inr (.inl h3)⟩
        · rw [← hk.2 i h2, ha] at h3
          exact .inl (Option.some.inj h3).symm
    · exact ⟨fr2, Fr.le_refl _ _, hq⟩
  | _ => exact ⟨fr2, Fr.le_refl _ _, hq⟩
/-- a region whose order is drawn: behind it just this is kept of the slots that live -/
theorem vc_cut {ops : Array Oper} {K : Fr → St → Prop} {fr : Fr} {st : St} (live : List Nat) (I : List AV → St → Prop) (p : Plan) (hp : planOk ops p = true) (hin : liveB (dsts ops) fr.length live = true)
    (hv : vcPlan P T ops (fun fr' st' => I (slots live fr') st') p fr st) (rest : ∀ vals st', I vals st' → natsK (dsts ops) fun W => listK (sets live vals (topL W 0 fr)) fun fr1 => K fr1 st') : VDraw P T ops K fr st := by
  have rest : ∀ vals st', I vals st' → K (sets live vals (tops (dsts ops) fr)) st' := fun vals st' hI => listK_iff.1 (natsK_iff.1 (rest vals st' hI))
  refine .cut p _ hp hv fun fr1 st1 hI hk => ⟨sets live (slots live fr1) (tops (dsts ops) fr), ?_, rest _ _ hI⟩
  refine ⟨by rw [sets_len, tops_len]; exact hk.1.symm, fun i a c ha hc => ?_⟩
  rcases sets_get _ _ _ _ _ hc with ⟨k, h1, h2⟩ | h1
  · left
    simp only [slots, List.getElem?_map, h1, Option.map_some, Option.some.injEq] at h2
    rw [← h2, List.getD_eq_getElem?_getD, ha]; rfl
  · rcases tops_get _ _ _ _ h1 with ⟨h2, h3⟩ | ⟨h2, h3⟩
    · exact .inr ⟨h2, .inr (.inl h3)⟩
    · rw [← hk.2 i h2, ha] at h3
      exact .inl (Option.some.inj h3).symm
end
end Go.Proofs.YtfhodppaelfcfaaDoor
