/- A region whose order is drawn: where a Bool over its text holds, one walk of the text's order serves for every order. No statement of its own. -/
import Derived.Test.YtfhodppaelfcfaaDoorVm
import Derived.Still
namespace Go.Proofs.YtfhodppaelfcfaaDoor
open Go.RowKit

section
variable {P : Program} {T : Tab} {K : AV → St → Prop}

/-- it depends on its operands alone -/
theorem vcOp_congr {o : Op} {ρ ρ' : Operand → AV} (h : ∀ x ∈ o.operands, ρ x = ρ' x) (st : St) (K : AV → St → Prop) : vcOp P T o ρ st K = vcOp P T o ρ' st K := by
  have hm : ∀ (xs : Array Operand), (∀ x ∈ xs, ρ x = ρ' x) → xs.toList.map ρ = xs.toList.map ρ' := fun xs hx => List.map_congr_left fun x hx' => hx x (Array.mem_toList_iff.1 hx')
  have hp : ∀ (ps : Array (Nat × Operand)), (∀ x ∈ (ps.toList.map (·.2)).toArray, ρ x = ρ' x) → ps.toList.map (fun p => (p.1, ρ p.2)) = ps.toList.map (fun p => (p.1, ρ' p.2)) := fun ps hx => List.map_congr_left fun p hp' => by
    rw [hx p.2 (by simpa using ⟨p.1, by simpa using hp'⟩)]
  cases o with
  | move x => simp only [vcOp, h x (by simp [Op.operands])]
  | assign x => simp only [vcOp, h x (by simp [Op.operands])]
  | pick c a b => simp only [vcOp, h c (by simp [Op.operands]), h a (by simp [Op.operands]), h b (by simp [Op.operands])]
  | box t x => simp only [vcOp, h x (by simp [Op.operands])]
  | build t ps => simp only [vcOp, hp ps h]
  | buildSlice t n ps => simp only [vcOp, hp ps h]
  | load t a => simp only [vcOp, h a (by simp [Op.operands])]
  | store t a x => simp only [vcOp, h a (by simp [Op.operands]), h x (by simp [Op.operands])]
  | nilCheck x => simp only [vcOp, h x (by simp [Op.operands])]
  | binOp op t x y ty => simp only [vcOp, h x (by simp [Op.operands]), h y (by simp [Op.operands])]
  | unOp op t x => simp only [vcOp, h x (by simp [Op.operands])]
  | convert s d x => simp only [vcOp, h x (by simp [Op.operands])]
  | makeFunc f a c =>
    simp only [vcOp]
    rw [hm a (fun x hx => h x (by simp [Op.operands, hx])), hm c (fun x hx => h x (by simp [Op.operands, hx]))]
  | slice t x lo hi mx =>
    cases mx with
    | some m => rfl
    | none =>
      simp only [vcOp, h x (by simp [Op.operands])]
      cases lo with
      | none =>
        cases hi with
        | none => rfl
        | some b => simp only [Option.map_some, Option.map_none, h b (by simp [Op.operands])]
      | some a =>
        cases hi with
        | none => simp only [Option.map_some, Option.map_none, h a (by simp [Op.operands])]
        | some b => simp only [Option.map_some, h a (by simp [Op.operands]), h b (by simp [Op.operands])]
  | fieldAddr s x f => simp only [vcOp, h x (by simp [Op.operands])]
  | field s x f => simp only [vcOp, h x (by simp [Op.operands])]
  | indexAddr t x i => simp only [vcOp, h x (by simp [Op.operands]), h i (by simp [Op.operands])]
  | index t x i => simp only [vcOp, h x (by simp [Op.operands]), h i (by simp [Op.operands])]
  | extract x i => simp only [vcOp, h x (by simp [Op.operands])]
  | call c =>
    have ha : c.args.toList.map ρ = c.args.toList.map ρ' := hm c.args fun x hx => h x (by simp [Op.operands, Call.operands, hx])
    have ha' : ∀ x ∈ c.args.toList, ρ x = ρ' x := fun x hx => h x (by simp [Op.operands, Call.operands, Array.mem_toList_iff.1 hx])
    simp only [vcOp]
    cases hc : c.callee with
    | value f =>
      simp only
      rw [ha, h f (by simp [Op.operands, Call.operands, hc])]
    | invoke r m => rfl
    | builtin b =>
      cases b <;> try rfl
      case len =>
        simp only
        cases hl : c.args.toList with
        | nil => rfl
        | cons x r =>
          rw [hl] at ha'
          cases r with
          | nil => simp only [ha' x List.mem_cons_self]
          | cons y r => rfl
      case clear =>
        simp only
        cases hl : c.args.toList with
        | nil => rfl
        | cons x r =>
          rw [hl] at ha'
          cases r with
          | nil => simp only [ha' x List.mem_cons_self]
          | cons y r => rfl
      case append =>
        simp only
        cases hl : c.args.toList with
        | nil => rfl
        | cons x r =>
          rw [hl] at ha'
          cases r with
          | nil => rfl
          | cons y r =>
            cases r with
            | nil => simp only [ha' x List.mem_cons_self, ha' y (List.mem_cons_of_mem _ List.mem_cons_self)]
            | cons z r => rfl
      case min =>
        simp only
        cases hl : c.args.toList with
        | nil => rfl
        | cons x r =>
          rw [hl] at ha'
          simp only [ha' x List.mem_cons_self, List.map_congr_left fun z hz => ha' z (List.mem_cons_of_mem _ hz)]
      case max =>
        simp only
        cases hl : c.args.toList with
        | nil => rfl
        | cons x r =>
          rw [hl] at ha'
          simp only [ha' x List.mem_cons_self, List.map_congr_left fun z hz => ha' z (List.mem_cons_of_mem _ hz)]
  | _ => rfl
theorem okE_congr {o : Op} {ρ ρ' : Operand → AV} (h : ∀ x ∈ o.operands, ρ x = ρ' x) : okE o ρ = okE o ρ' := by
  cases o with
  | call c =>
    have ha' : ∀ x ∈ c.args.toList, ρ x = ρ' x := fun x hx => h x (by simp [Op.operands, Call.operands, Array.mem_toList_iff.1 hx])
    cases hc : c.callee with
    | builtin b =>
      cases b
      case append =>
        cases hl : c.args.toList with
        | nil => simp only [okE, hc, hl]
        | cons s r => simp only [okE, hc, hl, ha' s (by rw [hl]; exact List.mem_cons_self)]
      all_goals simp only [okE, hc]
    | _ => simp only [okE, hc]
  | _ => rfl
theorem vcOpE_congr {o : Op} {ρ ρ' : Operand → AV} (h : ∀ x ∈ o.operands, ρ x = ρ' x) (st : St) (K : AV → St → Prop) : vcOpE P T o ρ st K = vcOpE P T o ρ' st K := by
  rw [propext vcOpE_iff, propext vcOpE_iff, okE_congr h, vcOp_congr h st K]
theorem vcOpX_congr {o : Op} {ρ ρ' : Operand → AV} (h : ∀ x ∈ o.operands, ρ x = ρ' x) (st : St) (K : AV → St → Prop) : vcOpX P T o ρ st K = vcOpX P T o ρ' st K := by
  cases o with
  | call c =>
    have ha : c.args.toList.map ρ = c.args.toList.map ρ' := List.map_congr_left fun x hx => h x (by simp [Op.operands, Call.operands, Array.mem_toList_iff.1 hx])
    simp only [vcOpX]
    cases hc : c.callee with
    | value f =>
      simp only
      rw [ha, h f (by simp [Op.operands, Call.operands, hc])]
    | invoke r m => rfl
    | builtin b => exact vcOpE_congr (P := P) (T := T) h st K
  | _ => exact vcOp_congr (P := P) (T := T) h st K

/-- an operation that turns no variable has one value, in every state with the same variables (or whatever they are) -/
def Det (V : Op → (Operand → AV) → St → (AV → St → Prop) → Prop) (k : Nat) (o : Op) : Prop :=
  ∀ (ρ : Operand → AV) (st : St) (K : AV → St → Prop), V o ρ st K → ∃ v, (∀ (st' : St) (K' : AV → St → Prop), (k = 1 → Pre st st') → K' v st' → V o ρ st' K') ∧ K v st

theorem cnd_val {α : Type} {b : Bool} {x y : α} {K : α → Prop} (h : cnd b (K x) (K y)) : K (if b then x else y) := by cases b <;> exact h
theorem val_cnd {α : Type} {b : Bool} {x y : α} {K : α → Prop} (h : K (if b then x else y)) : cnd b (K x) (K y) := by cases b <;> exact h
theorem binInt_det {op : BinOp} {k : IntKind} {a b : Int} {K1 : AV → Prop} (h : binInt op k a b K1) : ∃ v, (∀ K' : AV → Prop, K' v → binInt op k a b K') ∧ K1 v := by
  cases op <;> simp only [binInt] at h ⊢ <;> first
    | exact ⟨_, fun K' hk c hc => by subst hc; exact hk, h _ rfl⟩
    | exact ⟨_, fun K' hk => ⟨h.1, fun c hc => by subst hc; exact hk⟩, h.2 _ rfl⟩
    | exact ⟨_, fun K' hk => ⟨h.1, hk⟩, h.2⟩
    | exact ⟨_, fun K' hk => hk, h⟩
theorem binStr_det {op : BinOp} {a b : ByteArray} {K1 : AV → Prop} (h : binStr op a b K1) : ∃ v, (∀ K' : AV → Prop, K' v → binStr op a b K') ∧ K1 v := by
  cases op <;> simp only [binStr] at h ⊢
  case add => exact ⟨_, fun K' hk => ⟨h.1, hk⟩, h.2⟩
  case eql =>
    by_cases e : a = b
    · exact ⟨.b true, fun K' hk t ht => by rw [ht.2 e]; exact hk, h true ⟨fun _ => e, fun _ => rfl⟩⟩
    · exact ⟨.b false, fun K' hk t ht => by rw [show t = false from by cases t with | false => rfl | true => exact absurd (ht.1 rfl) e]; exact hk, h false ⟨fun h => by (cases h), fun h => absurd h e⟩⟩
  case neq =>
    by_cases e : a = b
    · exact ⟨.b false, fun K' hk t ht => by rw [ht.2 e]; exact hk, h false ⟨fun _ => e, fun _ => rfl⟩⟩
    · exact ⟨.b true, fun K' hk t ht => by rw [show t = true from by cases t with | true => rfl | false => exact absurd (ht.1 rfl) e]; exact hk, h true ⟨fun h => by (cases h), fun h => absurd h e⟩⟩
  case lss => exact ⟨_, fun K' hk => hk, h⟩
  case leq => exact ⟨_, fun K' hk t ht => by subst ht; exact hk, h _ rfl⟩
  case gtr => exact ⟨_, fun K' hk t ht => by subst ht; exact hk, h _ rfl⟩
  case geq => exact ⟨_, fun K' hk => hk, h⟩
theorem eqlB_det {op : BinOp} {t : Bool} {K1 : AV → Prop} (h : eqlB op t K1) : ∃ v, (∀ K' : AV → Prop, K' v → eqlB op t K') ∧ K1 v := by
  cases op <;> simp only [eqlB] at h ⊢ <;> exact ⟨_, fun K' hk => hk, h⟩
theorem vcBin_det {op : BinOp} {t : TypeId} {x y : AV} {K1 : AV → Prop} (h : vcBin P T op t x y K1) : ∃ v, (∀ K' : AV → Prop, K' v → vcBin P T op t x y K') ∧ K1 v := by
  revert h
  unfold vcBin
  repeat' split
  all_goals intro h
  all_goals first
    | exact binInt_det h
    | exact binStr_det h
    | exact eqlB_det h
    | (rename_i A _
       rcases Classical.em A with e | e
       · obtain ⟨v, h1, h2⟩ := eqlB_det (h.2 true ⟨fun _ => e, fun _ => rfl⟩)
         exact ⟨v, fun K' hk => ⟨h.1, fun q hq => by rw [hq.2 e]; exact h1 K' hk⟩, h2⟩
       · obtain ⟨v, h1, h2⟩ := eqlB_det (h.2 false ⟨fun h => by (cases h), fun h => absurd h e⟩)
         exact ⟨v, fun K' hk => ⟨h.1, fun q hq => by rw [show q = false from by cases q with | false => rfl | true => exact absurd (hq.1 rfl) e]; exact h1 K' hk⟩, h2⟩)
    | exact h.elim
    | exact h.2.elim
theorem vcUn_det {op : UnOp} {x : AV} {K1 : AV → Prop} (h : vcUn op x K1) : ∃ v, (∀ K' : AV → Prop, K' v → vcUn op x K') ∧ K1 v := by
  revert h
  unfold vcUn
  split <;> intro h <;> first | exact ⟨_, fun K' hk => hk, h⟩ | exact ⟨_, fun K' hk c hc => by subst hc; exact hk, h _ rfl⟩ | exact h.elim
theorem ldA_det {i : TI} {cs : List AV} {off : Nat} {K1 : AV → Prop} (h : ldA i cs off K1) : ∃ v, (∀ K' : AV → Prop, K' v → ldA i cs off K') ∧ K1 v := by
  revert h
  unfold ldA
  split <;> (try split) <;> intro h <;> first | exact ⟨_, fun K' hk => listK_iff.2 hk, listK_iff.1 h⟩ | exact ⟨_, fun K' hk => hk, h⟩ | exact h.elim
theorem bndA_det {x : Option AV} {d : Nat} {L : Nat → Prop} (h : bndA x d L) : ∃ k, (∀ L' : Nat → Prop, L' k → bndA x d L') ∧ L k := by
  revert h
  unfold bndA
  split <;> intro h <;> first | exact ⟨_, fun L' hk => hk, h⟩ | (obtain ⟨k, h1, h2⟩ := h; exact ⟨k, fun L' hk => ⟨k, h1, hk⟩, h2⟩) | exact h.elim
theorem vcSlice_det {t : TypeId} {x : AV} {lo hi : Option AV} {K1 : AV → Prop} (h : vcSlice T t x lo hi K1) : ∃ v, (∀ K' : AV → Prop, K' v → vcSlice T t x lo hi K') ∧ K1 v := by
  revert h
  unfold vcSlice
  repeat' split
  all_goals intro h
  all_goals first
    | exact h.elim
    | (obtain ⟨k, h1, h2⟩ := bndA_det h; obtain ⟨l, h3, h4⟩ := bndA_det h2; exact ⟨_, fun K' hk => h1 _ (h3 _ ⟨h4.1, h4.2.1, hk⟩), h4.2.2⟩)
    | (obtain ⟨k, h1, h2⟩ := bndA_det h; obtain ⟨l, h3, h4⟩ := bndA_det h2; exact ⟨_, fun K' hk => h1 _ (h3 _ ⟨h4.1, h4.2.1, fun lo' hl => by subst hl; exact hk⟩), h4.2.2 _ rfl⟩)
    | (obtain ⟨k, h1, h2⟩ := bndA_det h; exact ⟨_, fun K' hk => h1 _ ⟨h2.1, hk⟩, h2.2⟩)
theorem minA_det {op : Int → Int → Int} : ∀ {r : List AV} {x : AV} {K1 : AV → Prop}, minA op x r K1 → ∃ v, (∀ K' : AV → Prop, K' v → minA op x r K') ∧ K1 v
  | [], _, _, h => ⟨_, fun K' hk => hk, h⟩
  | y :: r, x, K1, h => by
    revert h
    unfold minA
    split
    · exact fun h => minA_det h
    · exact fun h => h.elim
theorem vcLenS_det {x : AV} {K1 : AV → Prop} (h : vcLenS x K1) : ∃ v, (∀ K' : AV → Prop, K' v → vcLenS x K') ∧ K1 v := by
  revert h
  unfold vcLenS
  split <;> intro h <;> first | exact ⟨_, fun K' hk => hk, h⟩ | exact h.elim
theorem vcLenL_det {x : AV} {K1 : AV → Prop} (h : vcLenL x K1) : ∃ v, (∀ K' : AV → Prop, K' v → vcLenL x K') ∧ K1 v := by
  revert h
  unfold vcLenL
  split <;> intro h <;> first | exact ⟨_, fun K' hk => hk, h⟩ | exact h.elim
theorem vcExt_det {x : AV} {i : Nat} {K1 : AV → Prop} (h : vcExt x i K1) : ∃ v, (∀ K' : AV → Prop, K' v → vcExt x i K') ∧ K1 v := by
  revert h
  unfold vcExt
  split <;> (try split) <;> intro h <;> first | exact ⟨_, fun K' hk => hk, h⟩ | exact h.elim

theorem vcOp_det {x : Bool} {o : Op} (hc : cls x o ≤ 1) (hcall : ∀ c f, o = .call c → c.callee ≠ .value f) : Det (vcOp P T) (cls x o) o := by
  intro ρ st K h
  cases o <;> simp only [vcOp, AV.fc_iff, listK_iff, listLK_iff] at h ⊢ <;> try exact h.elim
  case move x => exact ⟨_, fun st' K' _ hk => hk, h⟩
  case assign x => exact ⟨_, fun st' K' _ hk => hk, h⟩
  case makeFunc f a c => exact ⟨_, fun st' K' _ hk => hk, h⟩
  case pick c a b =>
    revert h
    split <;> intro h
    · exact ⟨_, fun st' K' _ hk => val_cnd (K := fun v => K' v st') hk, cnd_val (K := fun v => K v st) h⟩
    · exact h.elim
  case alloc t => simp [cls] at hc
  case box t x => simp [cls] at hc
  case store t a x => simp [cls] at hc
  case build t parts =>
    revert h
    repeat' split
    all_goals intro h
    all_goals first | exact ⟨_, fun st' K' _ hk => hk, h⟩ | exact h.elim
  case buildSlice t len parts =>
    revert h
    repeat' split
    all_goals intro h
    all_goals first | exact ⟨_, fun st' K' _ hk => hk, h⟩ | exact h.elim
  case load t a =>
    have hk1 : cls x (.load t a) = 1 := rfl
    revert h
    repeat' split
    all_goals intro h
    all_goals first
      | exact h.elim
      | (obtain ⟨cs, h1, h2⟩ := h; obtain ⟨v, h3, h4⟩ := ldA_det h2; exact ⟨v, fun st' K' hh hk => ⟨cs, (hh hk1).at' h1, h3 _ hk⟩, h4⟩)
      | (obtain ⟨v, h3, h4⟩ := ldA_det h; exact ⟨v, fun st' K' hh hk => h3 _ hk, h4⟩)
  case nilCheck x =>
    revert h
    repeat' split
    all_goals intro h
    all_goals first | exact ⟨_, fun st' K' _ hk => hk, h⟩ | exact h.elim
  case binOp op t x y ty =>
    obtain ⟨v, h1, h2⟩ := vcBin_det h
    exact ⟨v, fun st' K' _ hk => h1 _ hk, h2⟩
  case unOp op t x =>
    obtain ⟨v, h1, h2⟩ := vcUn_det h
    exact ⟨v, fun st' K' _ hk => h1 _ hk, h2⟩
  case convert src dst y =>
    have hk1 : cls x (.convert src dst y) = 1 := rfl
    revert h
    repeat' split
    all_goals intro h
    all_goals first
      | exact h.elim
      | (obtain ⟨cs, b, h1, h2, h3, h4⟩ := h; exact ⟨_, fun st' K' hh hk => ⟨cs, b, (hh hk1).at' h1, h2, h3, hk⟩, h4⟩)
      | exact ⟨_, fun st' K' _ hk => hk, h⟩
      | exact ⟨_, fun st' K' _ hk c hc => by subst hc; exact hk, h _ rfl⟩
      | exact ⟨_, fun st' K' _ hk => ⟨h.1, hk⟩, h.2⟩
      | (obtain ⟨b, h1, h2⟩ := h; exact ⟨_, fun st' K' _ hk => ⟨b, h1, hk⟩, h2⟩)
  case slice t x lo hi mx =>
    cases mx with
    | some m => exact h.elim
    | none =>
      obtain ⟨v, h1, h2⟩ := vcSlice_det h
      exact ⟨v, fun st' K' _ hk => h1 _ hk, h2⟩
  case fieldAddr s x f =>
    revert h
    repeat' split
    all_goals intro h
    all_goals first | exact ⟨_, fun st' K' _ hk => hk, h⟩ | exact h.elim
  case field s x f =>
    revert h
    repeat' split
    all_goals intro h
    all_goals first | (obtain ⟨v, h3, h4⟩ := ldA_det h; exact ⟨v, fun st' K' hh hk => h3 _ hk, h4⟩) | exact h.elim
  case indexAddr t x ix =>
    revert h
    repeat' split
    all_goals intro h
    all_goals first | (obtain ⟨j, e, h1, h2, h3⟩ := h; exact ⟨_, fun st' K' _ hk => ⟨j, e, h1, h2, hk⟩, h3⟩) | (obtain ⟨j, h1, h2, h3⟩ := h; exact ⟨_, fun st' K' _ hk => ⟨j, h1, h2, hk⟩, h3⟩) | exact h.elim
  case index t x ix =>
    revert h
    repeat' split
    all_goals intro h
    all_goals first | (obtain ⟨j, e, h1, h2⟩ := h; exact ⟨_, fun st' K' _ hk => ⟨j, e, h1, hk⟩, h2⟩) | exact h.elim
  case extract x i =>
    obtain ⟨v, h1, h2⟩ := vcExt_det h
    exact ⟨v, fun st' K' _ hk => h1 _ hk, h2⟩
  case call c =>
    have hc' := hcall c
    revert h
    split
    · repeat' split
      all_goals intro h
      all_goals first | exact h.elim | (obtain ⟨v, h1, h2⟩ := vcLenS_det h; exact ⟨v, fun st' K' _ hk => h1 _ hk, h2⟩) | (obtain ⟨v, h1, h2⟩ := vcLenL_det h; exact ⟨v, fun st' K' _ hk => h1 _ hk, h2⟩)
    · split
      all_goals intro h
      all_goals first | exact h.elim | (obtain ⟨v, h1, h2⟩ := minA_det h; exact ⟨v, fun st' K' _ hk => h1 _ hk, h2⟩)
    · split
      all_goals intro h
      all_goals first | exact h.elim | (obtain ⟨v, h1, h2⟩ := minA_det h; exact ⟨v, fun st' K' _ hk => h1 _ hk, h2⟩)
    · rename_i hb
      simp [cls, hb] at hc
    · rename_i hb
      simp [cls, hb] at hc
    · rename_i f hb
      exact absurd hb (hc' f rfl)
    · exact fun h => h.elim

theorem vcOpE_det {x : Bool} {o : Op} (hc : cls x o ≤ 1) (hcall : ∀ c f, o = .call c → c.callee ≠ .value f) : Det (vcOpE P T) (cls x o) o := fun ρ st K h => by
  obtain ⟨h1, h2⟩ := vcOpE_iff.1 h
  obtain ⟨v, k1, k2⟩ := vcOp_det hc hcall ρ st K h2
  exact ⟨v, fun st' K' a b => vcOpE_iff.2 ⟨h1, k1 st' K' a b⟩, k2⟩
theorem vcOpX_det {o : Op} (hc : cls true o ≤ 1) : Det (vcOpX P T) (cls true o) o := by
  have hno : (∀ c f, o = .call c → c.callee ≠ .value f) → (∀ ρ st K, vcOpX P T o ρ st K = vcOp P T o ρ st K) → Det (vcOpX P T) (cls true o) o := fun h1 h2 ρ st K h => by
    rw [h2] at h
    obtain ⟨v, k1, k2⟩ := vcOp_det hc h1 ρ st K h
    exact ⟨v, fun st' K' a b => by rw [h2]; exact k1 st' K' a b, k2⟩
  cases o with
  | call c =>
    cases hcal : c.callee with
    | value f =>
      intro ρ st K h
      simp only [vcOpX, hcal] at h ⊢
      revert h
      repeat' split
      all_goals intro h
      all_goals first | exact h.elim | (rcases h with ⟨h0, h1, h2⟩ | ⟨h0, h3, h1, h2⟩; exact ⟨_, fun st' K' _ hk => .p h0 h1 hk, h2⟩; exact ⟨_, fun st' K' _ hk => .w h0 h3 h1 hk, h2⟩)
    | builtin b =>
      intro ρ st K h
      have e : ∀ st K, vcOpX P T (.call c) ρ st K = vcOpE P T (.call c) ρ st K := fun st K => by simp only [vcOpX, hcal]
      rw [e] at h
      obtain ⟨v, k1, k2⟩ := vcOpE_det hc (fun c' f e => by cases e; rw [hcal]; exact fun h => by cases h) ρ st K h
      exact ⟨v, fun st' K' a b => by rw [e]; exact k1 st' K' a b, k2⟩
    | invoke r m =>
      intro ρ st K h
      simp only [vcOpX, hcal] at h
  | _ => exact hno (fun c' f e => by cases e) (fun ρ st K => rfl)

def isHs : AV → Bool
  | .hs _ _ _ _ _ => true
  | _ => false
theorem vcApp_heap {i : TI} {s y : AV} {st : St} {K : AV → St → Prop} (hn : isHs s = false) : vcApp i s y st K → vcApp i s y st (fun v st' => Pre st st' ∧ K v st') := by
  intro h
  refine srcA_mono (fun ys h => ?_) h
  revert h
  split <;> (try split) <;> intro h <;> first
    | (cases hn; done)
    | exact ⟨fun e => ⟨.refl _, h.1 e⟩, fun e => ⟨(h.2 e).1, (h.2 e).2.1, .refl _, (h.2 e).2.2⟩⟩
    | exact ⟨fun e => ⟨.refl _, h.1 e⟩, fun e => ⟨(h.2 e).1, (h.2 e).2.1, ⟨[], by simp⟩, (h.2 e).2.2⟩⟩
    | exact ⟨fun e => ⟨.refl _, h.1 e⟩, fun e => ⟨(h.2 e).1, (h.2 e).2.1, (h.2 e).2.2.imp (fun g => ⟨⟨[], by simp⟩, g⟩) (fun g x hx => ⟨⟨_, rfl⟩, g x hx⟩)⟩⟩
    | exact ⟨fun e => ⟨.refl _, h.1 e⟩, fun e => ⟨(h.2 e).1, (h.2 e).2.1, (h.2 e).2.2.imp (fun g => ⟨⟨[], by simp⟩, g⟩) (fun g => ⟨g.1, fun x hx => ⟨⟨_, rfl⟩, g.2 x hx⟩⟩)⟩⟩
    | exact ⟨h.1, h.2.1, h.2.2.1, ⟨[], by simp⟩, h.2.2.2⟩
    | exact h.elim
theorem vcOpE_app {o : Op} (ho : isApp o = true) (ρ : Operand → AV) (st : St) (K : AV → St → Prop) (h : vcOpE P T o ρ st K) : vcOpE P T o ρ st (fun v st' => Pre st st' ∧ K v st') := by
  rcases vcOpE_iff.1 h with ⟨h1, h2⟩
  clear h
  refine vcOpE_iff.2 ⟨h1, ?_⟩
  rename vcOp _ _ _ _ _ _ => h
  cases o
  case call c =>
    cases hcal : c.callee with
    | builtin b =>
      cases b with
      | append =>
        simp only [okE, hcal] at h1
        revert h
        simp only [vcOp, hcal]
        cases hl : c.args.toList with
        | nil => exact id
        | cons s r =>
          rw [hl] at h1
          have hns : isHs (ρ s) = false := by
            cases hr : ρ s with
            | hs p lo n cap sz => simp only [hr] at h1
            | _ => rfl
          cases r with
          | nil => exact id
          | cons y r =>
            cases r with
            | nil =>
              simp only
              repeat' split
              all_goals first | exact id | exact vcApp_heap hns
            | cons z r => exact id
      | _ => simp [isApp, hcal] at ho
    | _ => simp [isApp, hcal] at ho
  all_goals simp [isApp] at ho
theorem vcOpX_app {o : Op} (ho : isApp o = true) (ρ : Operand → AV) (st : St) (K : AV → St → Prop) (h : vcOpX P T o ρ st K) : vcOpX P T o ρ st (fun v st' => Pre st st' ∧ K v st') := by
  cases o
  case call c =>
    cases hcal : c.callee with
    | builtin b =>
      have e : ∀ K, vcOpX P T (.call c) ρ st K = vcOpE P T (.call c) ρ st K := fun K => by simp only [vcOpX, hcal]
      rw [e] at h ⊢
      exact vcOpE_app ho ρ st K h
    | _ => simp [isApp, hcal] at ho
  all_goals simp [isApp] at ho

theorem vcOpN_congr {o : Op} {ρ ρ' : Operand → AV} (h : ∀ x ∈ o.operands, ρ x = ρ' x) (st : St) (K : AV → St → Prop) : vcOpN P T o ρ st K = vcOpN P T o ρ' st K := by
  cases o with
  | call c =>
    have ha : c.args.toList.map ρ = c.args.toList.map ρ' := List.map_congr_left fun x hx => h x (by simp [Op.operands, Call.operands, Array.mem_toList_iff.1 hx])
    simp only [vcOpN]
    cases hc : c.callee with
    | value f =>
      simp only
      rw [ha, h f (by simp [Op.operands, Call.operands, hc])]
    | invoke r m => rfl
    | builtin b => exact vcOpE_congr (P := P) (T := T) h st K
  | _ => exact vcOp_congr (P := P) (T := T) h st K
theorem vcOpN_det {o : Op} (hc : cls false o ≤ 1) : Det (vcOpN P T) (cls false o) o := by
  have hno : (∀ c f, o = .call c → c.callee ≠ .value f) → (∀ ρ st K, vcOpN P T o ρ st K = vcOp P T o ρ st K) → Det (vcOpN P T) (cls false o) o := fun h1 h2 ρ st K h => by
    rw [h2] at h
    obtain ⟨v, k1, k2⟩ := vcOp_det hc h1 ρ st K h
    exact ⟨v, fun st' K' a b => by rw [h2]; exact k1 st' K' a b, k2⟩
  cases o with
  | call c =>
    cases hcal : c.callee with
    | value f => simp [cls, hcal] at hc
    | builtin b =>
      intro ρ st K h
      have e : ∀ st K, vcOpN P T (.call c) ρ st K = vcOpE P T (.call c) ρ st K := fun st K => by simp only [vcOpN, hcal]
      rw [e] at h
      obtain ⟨v, k1, k2⟩ := vcOpE_det hc (fun c' f e => by cases e; rw [hcal]; exact fun h => by cases h) ρ st K h
      exact ⟨v, fun st' K' a b => by rw [e]; exact k1 st' K' a b, k2⟩
    | invoke r m =>
      intro ρ st K h
      simp only [vcOpN, hcal] at h
  | _ => exact hno (fun c' f e => by cases e) (fun ρ st K => rfl)
theorem vcOpN_new {o : Op} (ho : isNew o = true) (ρ : Operand → AV) (st : St) (K : AV → St → Prop) (h : vcOpN P T o ρ st K) : vcOpN P T o ρ st (fun v st' => Pre st st' ∧ K v st') := by
  cases o
  case call c =>
    cases hcal : c.callee with
    | builtin b =>
      have e : ∀ K, vcOpN P T (.call c) ρ st K = vcOpE P T (.call c) ρ st K := fun K => by simp only [vcOpN, hcal]
      rw [e] at h ⊢
      exact vcOpE_app (by cases b <;> simp [isNew, isApp, hcal] at ho ⊢) ρ st K h
    | value f =>
      revert h
      simp only [vcOpN, hcal]
      have key : ∀ (k : FuncId) (args : List AV), callN P k args st K → callN P k args st (fun v st' => Pre st st' ∧ K v st') := by
        rintro k args (⟨h0, h1, h2⟩ | ⟨h0, h3, h1, h2⟩ | ⟨h1, h2⟩)
        · exact .p h0 h1 ⟨.refl _, h2⟩
        · exact .w h0 h3 h1 ⟨.refl _, h2⟩
        · refine .s ⟨h1, fun base J w0 μ σ w vs a b c => (h2 base J w0 μ σ w vs a b c).mono ?_⟩
          rintro e w' ⟨v, r, st', μ', σ', q1, q2, q3⟩
          exact ⟨v, r, st', μ', σ', q1, ⟨q2.1, q2⟩, q3⟩
      repeat' split
      all_goals first | exact key _ _ | exact fun h => h
    | invoke r m => simp [isNew, hcal] at ho
  case alloc t =>
    revert h
    simp only [vcOpN, vcOp, listK_iff]
    repeat' split
    all_goals intro h
    all_goals first | exact ⟨⟨_, rfl⟩, h⟩ | exact h
  case box t x =>
    revert h
    simp only [vcOpN, vcOp, listK_iff]
    repeat' split
    all_goals intro h
    all_goals first | (rw [olderA_iff] at h ⊢; exact ⟨h.1, ⟨_, rfl⟩, h.2⟩) | exact h
  all_goals simp [isNew] at ho

/-- an operation in a region, by whatever says what operations ask -/
def operG (V : Op → (Operand → AV) → St → (AV → St → Prop) → Prop) (ops : Array Oper) (o : Oper) (fr : Fr) (st : St) (K : Fr → St → Prop) : Prop :=
  guard0 ops o.guard fr (V o.op fr.ev st fun v st' => K (fr.put o.dst v) st') (K (fr.put o.dst .un) st)
def opsG (V : Op → (Operand → AV) → St → (AV → St → Prop) → Prop) (ops : Array Oper) : List Oper → Fr → St → (Fr → St → Prop) → Prop
  | [], fr, st, K => K fr st
  | o :: r, fr, st, K => operG V ops o fr st fun fr' st' => opsG V ops r fr' st' K
theorem operG_iff {ops : Array Oper} {o : Oper} {fr : Fr} {st : St} {K : Fr → St → Prop} : vcOper P T ops o fr st K ↔ operG (vcOp P T) ops o fr st K := vcOper_iff
theorem operGX_iff {ops : Array Oper} {o : Oper} {fr : Fr} {st : St} {K : Fr → St → Prop} : vcOperX P T ops o fr st K ↔ operG (vcOpX P T) ops o fr st K := vcOperX_iff

/-- what is asked of it -/
structure Good (x : Bool) (V : Op → (Operand → AV) → St → (AV → St → Prop) → Prop) : Prop where
  mono : ∀ {o : Op} {ρ : Operand → AV} {st : St} {K K' : AV → St → Prop}, (∀ v st, K v st → K' v st) → V o ρ st K → V o ρ st K'
  congr : ∀ {o : Op} {ρ ρ' : Operand → AV} (_ : ∀ y ∈ o.operands, ρ y = ρ' y) (st : St) (K : AV → St → Prop), V o ρ st K = V o ρ' st K
  det : ∀ {o : Op}, cls x o ≤ 1 → Det V (cls x o) o
  app : ∀ {o : Op}, isApp o = true → ∀ (ρ : Operand → AV) (st : St) (K : AV → St → Prop), V o ρ st K → V o ρ st (fun v st' => Pre st st' ∧ K v st')

section
variable {x : Bool} {V : Op → (Operand → AV) → St → (AV → St → Prop) → Prop} (hV : Good x V) {ops : Array Oper}

/-- what is asked of it at least -/
structure Good0 (V : Op → (Operand → AV) → St → (AV → St → Prop) → Prop) : Prop where
  mono : ∀ {o : Op} {ρ : Operand → AV} {st : St} {K K' : AV → St → Prop}, (∀ v st, K v st → K' v st) → V o ρ st K → V o ρ st K'
  congr : ∀ {o : Op} {ρ ρ' : Operand → AV} (_ : ∀ y ∈ o.operands, ρ y = ρ' y) (st : St) (K : AV → St → Prop), V o ρ st K = V o ρ' st K
theorem Good.zero (hV : Good x V) : Good0 V := ⟨hV.mono, hV.congr⟩
theorem operG_mono (hV : Good0 V) {o : Oper} {fr : Fr} {st : St} {K K' : Fr → St → Prop} (hk : ∀ v st', K (fr.put o.dst v) st' → K' (fr.put o.dst v) st') (h : operG V ops o fr st K) : operG V ops o fr st K' :=
  guard0_mono (hV.mono fun v st' h => hk v st' h) (fun h => hk _ _ h) h

theorem ev_put {fr : Fr} {d : Option Tmp} {v : AV} {y : Operand} (h : ∀ t, d = some t → y ≠ .tmp t) : (fr.put d v).ev y = fr.ev y := by
  cases d with
  | none => rfl
  | some t =>
    cases y with
    | tmp t' =>
      have hne : t ≠ t' := fun e => h t rfl (by rw [e])
      show (fr.set t v).getD t' .un = fr.getD t' .un
      rw [List.getD_eq_getElem?_getD, List.getD_eq_getElem?_getD, List.getElem?_set_ne hne]
    | _ => rfl
theorem put_comm {fr : Fr} {d e : Option Tmp} (v u : AV) (h : ∀ t, d = some t → e ≠ some t) : (fr.put d v).put e u = (fr.put e u).put d v := by
  cases d with
  | none => rfl
  | some t =>
    cases e with
    | none => rfl
    | some t' =>
      have hne : t ≠ t' := fun he => h t rfl (by rw [he])
      exact List.set_comm _ _ hne

/-- a slot that it does not look at -/
theorem operG_put (hV : Good0 V) {o : Oper} {fr : Fr} {st : St} {K : Fr → St → Prop} {d : Option Tmp} {v : AV} (h1 : ∀ t, d = some t → t ∉ o.looksAt ops) (h2 : ∀ t, d = some t → o.dst ≠ some t) :
    operG V ops o (fr.put d v) st K ↔ operG V ops o fr st (fun fr' st' => K (fr'.put d v) st') := by
  have hev : ∀ y ∈ o.op.operands, (fr.put d v).ev y = fr.ev y := fun y hy => ev_put fun t ht e => h1 t ht (List.mem_append_left _ (List.mem_filterMap.2 ⟨.tmp t, by subst e; simpa using hy, rfl⟩))
  have hg : ∀ (A B : Prop), guard0 ops o.guard (fr.put d v) A B = guard0 ops o.guard fr A B := fun A B => by
    unfold guard0
    cases hgd : o.guard with
    | none => rfl
    | some jw =>
      obtain ⟨j, want⟩ := jw
      cases hd : (ops[j]?).bind (·.dst) with
      | none => simp only [hd]
      | some e =>
        simp only [hd]
        have he : (fr.put d v)[e]? = fr[e]? := by
          cases d with
          | none => rfl
          | some t =>
            have hne : t ≠ e := fun ee => h1 t rfl (List.mem_append_right _ (by simp [hgd, hd, ee]))
            exact List.getElem?_set_ne hne
        rw [he]
  unfold operG
  rw [hg, hV.congr hev]
  have e1 : (fun u st' => K ((fr.put d v).put o.dst u) st') = fun u st' => K ((fr.put o.dst u).put d v) st' := by
    funext u st'
    rw [put_comm v u (fun t ht => h2 t ht)]
  rw [e1, put_comm v .un (fun t ht => h2 t ht)]

/-- it has the value v, in every state of the class -/
def Yld (V : Op → (Operand → AV) → St → (AV → St → Prop) → Prop) (ops : Array Oper) (o : Oper) (fr : Fr) (v : AV) (C : St → Prop) : Prop :=
  ∀ (st : St) (K : Fr → St → Prop), C st → K (fr.put o.dst v) st → operG V ops o fr st K
theorem Yld.put (hV : Good0 V) {o : Oper} {fr : Fr} {v u : AV} {C : St → Prop} {d : Option Tmp} (h : Yld V ops o fr v C) (h1 : ∀ t, d = some t → t ∉ o.looksAt ops) (h2 : ∀ t, d = some t → o.dst ≠ some t) : Yld V ops o (fr.put d u) v C := by
  intro st K hc hk
  rw [operG_put hV h1 h2]
  exact h st _ hc (by rw [put_comm _ _ (fun t ht e => h2 t e ht)]; exact hk)

theorem guard0_key {ops : Array Oper} {fr : Fr} (g : Option (Nat × Bool)) {A B : Prop} (h : guard0 ops g fr A B) : (A ∧ ∀ A' B' : Prop, A' → guard0 ops g fr A' B') ∨ (B ∧ ∀ A' B' : Prop, B' → guard0 ops g fr A' B') := by
  cases g with
  | none => exact .inl ⟨h, fun _ _ h => h⟩
  | some jw =>
    obtain ⟨j, want⟩ := jw
    cases hd : (ops[j]?).bind (·.dst) with
    | none => simp only [guard0, hd] at h
    | some d =>
      cases hf : fr[d]? with
      | none => simp only [guard0, hd, hf] at h
      | some a =>
        cases a with
        | lit v =>
          cases v with
          | bool b =>
            cases b <;> cases want <;> simp only [guard0, hd, hf, cnd] at h ⊢ <;> first | exact .inl ⟨h, fun _ _ h => h⟩ | exact .inr ⟨h, fun _ _ h => h⟩
          | tuple vs =>
            simp only [guard0, hd, hf] at h ⊢
            exact .inr ⟨h, fun _ _ h => h⟩
          | _ => simp only [guard0, hd, hf] at h
        | _ => simp only [guard0, hd, hf] at h

theorem operG_det (hV : Good x V) {o : Oper} (hc : cls x o.op ≤ 1) {fr : Fr} {st : St} {K : Fr → St → Prop} (h : operG V ops o fr st K) : ∃ v, Yld V ops o fr v (fun st' => cls x o.op = 1 → Pre st st') ∧ K (fr.put o.dst v) st := by
  unfold operG at h
  rcases guard0_key _ h with ⟨hA, hg⟩ | ⟨hB, hg⟩
  · obtain ⟨v, h1, h2⟩ := hV.det hc _ _ _ hA
    exact ⟨v, fun st' K' hC hk => hg _ _ (h1 st' _ hC hk), h2⟩
  · exact ⟨.un, fun st' K' _ hk => hg _ _ hk, hB⟩

/-- whatever order is picked -/
def anyG (V : Nat → Op → (Operand → AV) → St → (AV → St → Prop) → Prop) (ops : Array Oper) (K : Fr → St → Prop) : Nat → Array Bool → Fr → St → Prop
  | 0, listed, fr, st => Region.ready .any ops listed = [] ∧ K fr st
  | n + 1, listed, fr, st => (Region.ready .any ops listed = [] → K fr st) ∧ ∀ j ∈ Region.ready .any ops listed, ∃ o, ops[j]? = some o ∧ operG (V j) ops o fr st fun fr' st' => anyG V ops K n (listed.setIfInBounds j true) fr' st'

theorem anyG_first {V : Nat → Op → (Operand → AV) → St → (AV → St → Prop) → Prop} (hV : ∀ j, Good0 (V j)) {K : Fr → St → Prop} {i : Nat} {oi : Oper} {v : AV} {C : St → Prop} (hi : ops[i]? = some oi) (D : Nat → Bool)
    (hD : ∀ j oj, ops[j]? = some oj → D j = true → ∃ e ∈ oj.after, Region.binds .any e = true ∧ (e.on = i ∨ D e.on = true)) : ∀ (n : Nat) (listed : Array Bool) (fr : Fr) (st : St), C st → (∀ j, D j = true → listed.getD j true = false) →
    (∀ j oj, ops[j]? = some oj → j ≠ i → listed.getD j true = false → (∀ e ∈ oj.after, Region.binds .any e = true → e.on ≠ i ∧ D e.on = false) → oi.apart ops oj = true ∧ ∀ (fr : Fr) (st : St) (K : Fr → St → Prop), C st → operG (V j) ops oj fr st K → operG (V j) ops oj fr st (fun fr' st' => C st' ∧ K fr' st')) →
    i ∈ Region.ready .any ops listed → Yld (V i) ops oi fr v C → anyG V ops K n (listed.setIfInBounds i true) (fr.put oi.dst v) st → anyG V ops K (n + 1) listed fr st := by
  intro n
  induction n with
  | zero =>
    intro listed fr st hC hDl hfree hr hy H
    refine ⟨(fun h => by rw [h] at hr; cases hr), fun j hj => ?_⟩
    by_cases hji : j = i
    · subst hji; exact ⟨oi, hi, hy _ _ hC H⟩
    · have := ready_mono (i := i) hj hji
      rw [H.1] at this
      cases this
  | succ n ih =>
    intro listed fr st hC hDl hfree hr hy H
    refine ⟨(fun h => by rw [h] at hr; cases hr), fun j hj => ?_⟩
    by_cases hji : j = i
    · subst hji; exact ⟨oi, hi, hy _ _ hC H⟩
    · obtain ⟨oj, hoj, h1⟩ := H.2 j (ready_mono hj hji)
      obtain ⟨hjun, oj', hoj', hall⟩ := mem_ready.1 hj
      rw [hoj] at hoj'
      cases hoj'
      have clash : ∀ m : Nat, listed.getD m true = false → ∀ e ∈ oj.after, Region.binds .any e = true → e.on = m → False := fun m h0 e he hb heq => by
        have h1 := hall e he hb
        rw [heq] at h1
        rcases Nat.lt_or_ge m listed.size with h' | h'
        · simp [h'] at h0 h1; rw [h0] at h1; cases h1
        · simp [Array.getElem?_eq_none h'] at h1
      have hnot : ∀ e ∈ oj.after, Region.binds .any e = true → e.on ≠ i ∧ D e.on = false := fun e he hb => by
        refine ⟨fun heq => clash i (mem_ready.1 hr).1 e he hb heq, ?_⟩
        cases hd : D e.on with
        | false => rfl
        | true => exact (clash e.on (hDl _ hd) e he hb rfl).elim
      have hDj : D j = false := by
        cases hd : D j with
        | false => rfl
        | true =>
          obtain ⟨e, he, hb, hor⟩ := hD j oj hoj hd
          rcases hor with hor | hor
          · exact absurd hor (hnot e he hb).1
          · rw [(hnot e he hb).2] at hor; cases hor
      obtain ⟨hap, hpres⟩ := hfree j oj hoj hji hjun hnot
      obtain ⟨a1, a2, a3⟩ := Oper.apart_spec hap
      rw [operG_put (hV j) a1 a2] at h1
      refine ⟨oj, hoj, operG_mono (hV j) (fun u st' h3 => ?_) (hpres fr st _ hC h1)⟩
      have hfree' : ∀ k ok, ops[k]? = some ok → k ≠ i → (listed.setIfInBounds j true).getD k true = false → (∀ e ∈ ok.after, Region.binds .any e = true → e.on ≠ i ∧ D e.on = false) → oi.apart ops ok = true ∧ ∀ (fr : Fr) (st : St) (K : Fr → St → Prop), C st → operG (V k) ops ok fr st K → operG (V k) ops ok fr st (fun fr' st' => C st' ∧ K fr' st') := fun k ok hk hki hun hno => by
        refine hfree k ok hk hki ?_ hno
        by_cases hjk : j = k
        · subst hjk; exact hjun
        · rw [getD_set_ne true hjk] at hun; exact hun
      refine ih (listed.setIfInBounds j true) _ st' h3.1 (fun k hk => ?_) hfree' (ready_mono hr (Ne.symm hji)) (hy.put (hV i) a3 (fun t ht e => a2 t e ht)) ?_
      · have hjk : j ≠ k := fun e => by subst e; rw [hDj] at hk; cases hk
        rw [getD_set_ne true hjk]
        exact hDl k hk
      rw [Array.setIfInBounds_comm _ _ hji]
      exact h3.2

theorem anyG_lex (hV : Good x V) {K : Fr → St → Prop} : ∀ (l : List Oper) (k : Nat) (listed : Array Bool) (fr : Fr) (st : St), (∀ j : Nat, l[j]? = ops[k + j]?) → lexA x ops l.length k listed = true → opsG V ops l fr st K → anyG (fun _ => V) ops K l.length listed fr st
  | [], _, _, _, _, _, hB, h => ⟨by simpa [lexA] using hB, h⟩
  | o :: l, k, listed, fr, st, hl, hB, h => by
    have h0 : ops[k]? = some o := by simpa using (hl 0).symm
    simp only [List.length_cons, lexA, Bool.and_eq_true] at hB
    obtain ⟨⟨hr, hf⟩, hB'⟩ := hB
    have hr' : k ∈ Region.ready .any ops listed := by simpa using hr
    have hf' : ∀ j oj, ops[j]? = some oj → j ≠ k → listed.getD j true = false → (∀ e ∈ oj.after, Region.binds .any e = true → e.on ≠ k) → o.apart ops oj = true ∧ comm x o.op oj.op = true := by
      intro j oj hoj hne hun hno
      simp only [freeA, h0, List.all_eq_true, List.mem_range] at hf
      have h1 := hf j (Array.getElem?_eq_some_iff.1 hoj).1
      simp only [hoj, Bool.or_eq_true, beq_iff_eq, hne, false_or, hun, Bool.false_eq_true] at h1
      rcases h1 with h1 | h1
      · obtain ⟨e, he, hb⟩ := Array.any_eq_true'.1 h1
        simp only [Bool.and_eq_true, beq_iff_eq] at hb
        exact absurd hb.2 (hno e he hb.1)
      · simpa using h1
    have ih : ∀ fr' st', opsG V ops l fr' st' K → anyG (fun _ => V) ops K l.length (listed.setIfInBounds k true) fr' st' := fun fr' st' h' =>
      anyG_lex hV l (k + 1) _ fr' st' (fun j => by have := hl (j + 1); simpa [Nat.add_assoc, Nat.add_comm 1 j] using this) hB' h'
    by_cases hc : cls x o.op ≤ 1
    · obtain ⟨v, hy, hk⟩ := operG_det hV hc h
      refine anyG_first (V := fun _ => V) (fun _ => hV.zero) h0 (fun _ => false) (fun _ _ _ h => by cases h) l.length listed fr st (C := fun st' => cls x o.op = 1 → Pre st st') (fun _ => .refl _) (fun _ h => by cases h) (fun j oj hoj hne hun hno => ?_) hr' hy (ih _ _ hk)
      obtain ⟨q1, q2⟩ := hf' j oj hoj hne hun fun e he hb => (hno e he hb).1
      refine ⟨q1, fun fr2 st2 K2 hC2 h2 => ?_⟩
      by_cases h1 : cls x o.op = 1
      · have hcj : cls x oj.op ≤ 1 ∨ isApp oj.op = true := by
          unfold comm at q2
          rw [h1] at q2
          simpa using q2
        rcases hcj with hcj | hcj
        case inr => exact guard0_mono (fun h => hV.mono (fun v st' h => ⟨fun e => (hC2 e).trans h.1, h.2⟩) (hV.app hcj _ _ _ h)) (fun h => ⟨hC2, h⟩) h2
        obtain ⟨u, hyj, hkj⟩ := operG_det hV hcj h2
        exact hyj _ _ (fun _ => .refl _) ⟨hC2, hkj⟩
      · exact operG_mono hV.zero (fun u st3 h3 => ⟨fun e => absurd e h1, h3⟩) h2
    · have honly : ∀ j, j ∈ Region.ready .any ops listed → j = k := fun j hj => by
        apply Decidable.byContradiction
        intro hne
        obtain ⟨hjun, oj, hoj, hall⟩ := mem_ready.1 hj
        have hno : ∀ e ∈ oj.after, Region.binds .any e = true → e.on ≠ k := fun e he hb heq => by
          have h1 := hall e he hb
          have h2 := (mem_ready.1 hr').1
          rw [heq] at h1
          rcases Nat.lt_or_ge k listed.size with h' | h'
          · simp [h'] at h1 h2; rw [h2] at h1; cases h1
          · simp [Array.getElem?_eq_none h'] at h1
        have q2 := (hf' j oj hoj hne hjun hno).2
        unfold comm at q2
        split at q2
        · omega
        · omega
        · cases q2
      refine ⟨(fun h => by rw [h] at hr'; cases hr'), fun j hj => ?_⟩
      have := honly j hj
      subst this
      exact ⟨o, h0, operG_mono hV.zero (fun v st' h' => ih _ _ h') h⟩
end

theorem goodN : Good false (vcOpN P T) := ⟨fun hk h => vcOpN_mono hk h, fun h st K => vcOpN_congr h st K, fun hc => vcOpN_det hc, fun {o} ho ρ st K h => vcOpN_new (by
  cases o with
  | call c =>
    cases hcal : c.callee with
    | builtin b => cases b <;> simp [isNew, isApp, hcal] at ho ⊢
    | value f => simp [isApp, hcal] at ho
    | invoke r m => simp [isApp, hcal] at ho
  | _ => simp [isApp] at ho) ρ st K h⟩
/-- what a plan asks of an operation, by whatever says it -/
theorem operGN_iff {ops : Array Oper} {o : Oper} {fr : Fr} {st : St} {K : Fr → St → Prop} : vcOperN P T ops o fr st K ↔ operG (vcOpN P T) ops o fr st K := vcOperN_iff
theorem operG_iffP {ops : Array Oper} {o : Oper} {fr : Fr} {st : St} {K : Fr → St → Prop} : vcOper P T ops o fr st K ↔ operG (vcOp P T) ops o fr st K := vcOper_iff
theorem anyG_only {V : Nat → Op → (Operand → AV) → St → (AV → St → Prop) → Prop} {ops : Array Oper} {K : Fr → St → Prop} {k : Nat} {o : Oper} {n : Nat} {listed : Array Bool} {fr : Fr} {st : St} (h0 : ops[k]? = some o) (hr : Region.ready .any ops listed = [k])
    (h : operG (V k) ops o fr st fun fr' st' => anyG V ops K n (listed.setIfInBounds k true) fr' st') : anyG V ops K (n + 1) listed fr st := by
  refine ⟨(fun h => by rw [h] at hr; cases hr), fun j hj => ?_⟩
  rw [hr] at hj
  have := List.mem_singleton.1 hj
  subst this
  exact ⟨o, h0, h⟩
theorem callN_le {f : FuncId} {args : List AV} {st : St} {K : AV → St → Prop} (h : callN P f args st K) : VCall P f args st K := by
  rcases h with ⟨h0, h1, h2⟩ | ⟨h0, h3, h1, h2⟩ | ⟨h1, h2⟩
  · exact .p h0 h1 h2
  · exact .w h0 h3 h1 h2
  · refine .s ⟨h1, fun base J w0 μ σ w vs a b c => (h2 base J w0 μ σ w vs a b c).mono ?_⟩
    rintro e w' ⟨v, r, st', μ', σ', q1, q2, q3⟩
    exact ⟨v, r, st', μ', σ', q1, q2.2, q3⟩
theorem vcOpN_le {o : Op} {ρ : Operand → AV} {st : St} {K : AV → St → Prop} (h : vcOpN P T o ρ st K) : vcOp P T o ρ st K := by
  cases o with
  | call c =>
    cases hc : c.callee with
    | value f =>
      simp only [vcOpN, vcOp, hc] at h ⊢
      revert h
      repeat' split
      all_goals intro h
      all_goals first | exact callN_le h | exact h
    | builtin b => exact (vcOpE_iff.1 (by simpa only [vcOpN, hc] using h)).2
    | invoke r m => simp only [vcOpN, hc] at h
  | _ => exact h

/-- what is asked of the operation at a place -/
def vcW (W : List Nat) (j : Nat) : Op → (Operand → AV) → St → (AV → St → Prop) → Prop := match isIn j W with | true => vcOp P T | false => vcOpN P T
theorem vcW_of {W : List Nat} {j : Nat} {Q : (Op → (Operand → AV) → St → (AV → St → Prop) → Prop) → Prop} (h1 : isIn j W = true → Q (vcOp P T)) (h2 : isIn j W = false → Q (vcOpN P T)) : Q (vcW (P := P) (T := T) W j) := by
  unfold vcW
  cases h : isIn j W with
  | true => exact h1 h
  | false => exact h2 h
theorem vcW_good (W : List Nat) (j : Nat) : Good0 (vcW (P := P) (T := T) W j) :=
  vcW_of (Q := Good0) (fun _ => ⟨fun hk h => vcOp_mono hk h, fun h st K => vcOp_congr h st K⟩) (fun _ => goodN.zero)
theorem vcW_det (W : List Nat) (j : Nat) {o : Op} (hc : cls false o ≤ 1) : Det (vcW (P := P) (T := T) W j) (cls false o) o :=
  vcW_of (Q := fun V => Det V (cls false o) o) (fun _ => vcOp_det hc fun c f e hf => by subst e; simp [cls, hf] at hc) (fun _ => vcOpN_det hc)
theorem vcW_new (W : List Nat) (j : Nat) (hj : isIn j W = false) {o : Op} (ho : isNew o = true) (ρ : Operand → AV) (st : St) (K : AV → St → Prop) (h : vcW (P := P) (T := T) W j o ρ st K) : vcW (P := P) (T := T) W j o ρ st (fun v st' => Pre st st' ∧ K v st') := by
  unfold vcW at h ⊢
  rw [hj] at h ⊢
  exact vcOpN_new ho ρ st K h
theorem operG_det0 {V : Op → (Operand → AV) → St → (AV → St → Prop) → Prop} {x : Bool} {ops : Array Oper} {o : Oper} (hd : Det V (cls x o.op) o.op) {fr : Fr} {st : St} {K : Fr → St → Prop} (h : operG V ops o fr st K) : ∃ v, Yld V ops o fr v (fun st' => cls x o.op = 1 → Pre st st') ∧ K (fr.put o.dst v) st := by
  unfold operG at h
  rcases guard0_key _ h with ⟨hA, hg⟩ | ⟨hB, hg⟩
  · obtain ⟨v, h1, h2⟩ := hd _ _ _ hA
    exact ⟨v, fun st' K' hC hk => hg _ _ (h1 st' _ hC hk), h2⟩
  · exact ⟨.un, fun st' K' _ hk => hg _ _ hk, hB⟩
theorem vcW_le {W : List Nat} {j : Nat} {o : Op} {ρ : Operand → AV} {st : St} {K : AV → St → Prop} (h : vcW (P := P) (T := T) W j o ρ st K) : vcOp P T o ρ st K := by
  unfold vcW at h
  cases hj : isIn j W with
  | true => rw [hj] at h; exact h
  | false => rw [hj] at h; exact vcOpN_le h
theorem vcOpN_W (W : List Nat) (j : Nat) {o : Op} {ρ : Operand → AV} {st : St} {K : AV → St → Prop} (h : vcOpN P T o ρ st K) : vcW (P := P) (T := T) W j o ρ st K :=
  vcW_of (Q := fun V => V o ρ st K) (fun _ => vcOpN_le h) (fun _ => h)
theorem operN_W (W : List Nat) (j : Nat) {ops : Array Oper} {o : Oper} {fr : Fr} {st : St} {K : Fr → St → Prop} (h : operG (vcOpN P T) ops o fr st K) : operG (vcW (P := P) (T := T) W j) ops o fr st K := guard0_mono (fun h => vcOpN_W W j h) (fun h => h) h
theorem anyG_plan {ops : Array Oper} {K : Fr → St → Prop} (W : List Nat) : ∀ (n : Nat) (p : Plan) (listed : Array Bool) (fr : Fr) (st : St), okPlan W ops n p listed = true → vcPlan P T ops K p fr st → anyG (vcW (P := P) (T := T) W) ops K n listed fr st := by
  have hV := vcW_good (P := P) (T := T) W
  intro n
  induction n with
  | zero =>
    intro p listed fr st hB h
    cases p with
    | done => exact ⟨by simpa [okPlan] using hB, h⟩
    | _ => simp [okPlan] at hB
  | succ n ih =>
    intro p listed fr st hB h
    cases p with
    | done => simp [okPlan] at hB
    | only k p =>
      simp only [okPlan, Bool.and_eq_true] at hB
      obtain ⟨⟨hk, hr⟩, hB'⟩ := hB
      unfold vcPlan at h
      split at h
      case h_2 => exact h.elim
      rename_i o h0
      have he : Region.ready .any ops listed = [k] := by simpa using hr
      refine anyG_only h0 he (operG_mono (hV k) (fun v st' h' => ih p _ _ _ hB' h') ?_)
      have h := operG_iffP.1 h
      unfold vcW
      rw [hk]
      exact h
    | one k p =>
      simp only [okPlan, Bool.and_eq_true, Bool.or_eq_true] at hB
      obtain ⟨⟨hr, hf⟩, hB'⟩ := hB
      have hr' : k ∈ Region.ready .any ops listed := by simpa using hr
      unfold vcPlan at h
      split at h
      case h_2 => exact h.elim
      rename_i o h0
      have h := operN_W W k (operGN_iff.1 h)
      rcases hf with hf | hf
      case inr =>
        have he : Region.ready .any ops listed = [k] := by simpa using hf
        exact anyG_only h0 he (operG_mono (hV k) (fun v st' h' => ih p _ _ _ hB' h') h)
      obtain ⟨D, hDe⟩ : ∃ D : Nat → Bool, D = fun j => (dset ops k).getD j false := ⟨_, rfl⟩
      have hDk : D k = false := by
        have := hf
        simp only [freeN, h0, Bool.and_eq_true] at this
        rw [hDe]
        simpa using this.1
      have hf0 : ∀ j, j < ops.size → (D j = true → listed.getD j true = false) ∧ (j = k ∨ listed.getD j true = true ∨ ∀ oj, ops[j]? = some oj → (∃ e ∈ oj.after, Region.binds .any e = true ∧ (e.on = k ∨ D e.on = true)) ∨ (D j = false ∧ o.apart ops oj = true ∧ commN (isIn j W) o.op oj.op = true)) := by
        intro j hj
        simp only [freeN, h0, Bool.and_eq_true, List.all_eq_true, List.mem_range] at hf
        obtain ⟨h1, h2⟩ := hf.2 j hj
        have hDj : D j = (dset ops k).getD j false := by rw [hDe]
        refine ⟨fun hd => ?_, ?_⟩
        · rw [hDj] at hd
          rw [hd] at h1
          simpa using h1
        · simp only [Bool.or_eq_true, beq_iff_eq] at h2
          rcases h2 with (h2 | h2) | h2
          · exact .inl h2
          · exact .inr (.inl h2)
          · refine .inr (.inr fun oj hoj => ?_)
            rw [hoj] at h2
            simp only [Bool.or_eq_true, Bool.and_eq_true] at h2
            rcases h2 with h2 | ⟨⟨h3, h4⟩, h5⟩
            · obtain ⟨e, he, hb⟩ := Array.any_eq_true'.1 h2
              simp only [Bool.and_eq_true, Bool.or_eq_true, beq_iff_eq] at hb
              exact .inl ⟨e, he, hb.1, hb.2.imp id (fun h => by rw [hDe]; exact h)⟩
            · refine .inr ⟨?_, h4, h5⟩
              rw [hDj]
              simpa using h3
      have dlen : ∀ j, D j = true → j < ops.size := fun j hj => by
        have hl : (dset ops k).length = ops.size := by
          unfold dset
          have : ∀ (f : List Bool → Nat → Bool) (l : List Nat) (D : List Bool), (l.foldl (fun D j => D ++ [f D j]) D).length = D.length + l.length := by
            intro f l
            induction l with
            | nil => intro D; rfl
            | cons a r ih => intro D; rw [List.foldl_cons, ih]; simp; omega
          exact (this (fun D j => match ops[j]? with | some oj => oj.after.any (fun e => Region.binds .any e && (e.on == k || D.getD e.on false)) | none => false) (List.range ops.size) []).trans (by simp)
        rw [hDe] at hj
        apply Decidable.byContradiction
        intro hc
        simp only [List.getD_eq_getElem?_getD] at hj
        rw [List.getElem?_eq_none (by omega)] at hj
        cases hj
      have hDl : ∀ j, D j = true → listed.getD j true = false := fun j hj => (hf0 j (dlen j hj)).1 hj
      have hkun := (mem_ready.1 hr').1
      have hDall : ∀ j oj, ops[j]? = some oj → D j = true → ∃ e ∈ oj.after, Region.binds .any e = true ∧ (e.on = k ∨ D e.on = true) := fun j oj hoj hd => by
        by_cases hjk : j = k
        · rw [hjk, hDk] at hd; cases hd
        · rcases (hf0 j (dlen j hd)).2 with h1 | h1 | h1
          · exact absurd h1 hjk
          · rw [hDl j hd] at h1; cases h1
          · rcases h1 oj hoj with h1 | h1
            · exact h1
            · rw [h1.1] at hd; cases hd
      have hf' : ∀ j oj, ops[j]? = some oj → j ≠ k → listed.getD j true = false → (∀ e ∈ oj.after, Region.binds .any e = true → e.on ≠ k ∧ D e.on = false) → o.apart ops oj = true ∧ commN (isIn j W) o.op oj.op = true := by
        intro j oj hoj hne hun hno
        rcases (hf0 j (Array.getElem?_eq_some_iff.1 hoj).1).2 with h1 | h1 | h1
        · exact absurd h1 hne
        · rw [hun] at h1; cases h1
        · rcases h1 oj hoj with ⟨e, he, hb, hor⟩ | h1
          · obtain ⟨n1, n2⟩ := hno e he hb
            rcases hor with hor | hor
            · exact absurd hor n1
            · rw [n2] at hor; cases hor
          · exact h1.2
      by_cases hc : cls false o.op ≤ 1
      · obtain ⟨v, hy, hk⟩ := operG_det0 (vcW_det W k hc) h
        refine anyG_first hV h0 D hDall n listed fr st (C := fun st' => cls false o.op = 1 → Pre st st') (fun _ => .refl _) hDl (fun j oj hoj hne hun hno => ?_) hr' hy (ih _ _ _ _ hB' hk)
        obtain ⟨q1, q2⟩ := hf' j oj hoj hne hun hno
        refine ⟨q1, fun fr2 st2 K2 hC2 h2 => ?_⟩
        by_cases h1 : cls false o.op = 1
        · have hcj : cls false oj.op ≤ 1 ∨ (isIn j W = false ∧ isNew oj.op = true) := by
            unfold commN at q2
            rw [h1] at q2
            simpa using q2
          rcases hcj with hcj | ⟨hjw, hcj⟩
          case inr => exact guard0_mono (fun h => (hV j).mono (fun v st' h => ⟨fun e => (hC2 e).trans h.1, h.2⟩) (vcW_new W j hjw hcj _ _ _ h)) (fun h => ⟨hC2, h⟩) h2
          obtain ⟨u, hyj, hkj⟩ := operG_det0 (vcW_det W j hcj) h2
          exact hyj _ _ (fun _ => .refl _) ⟨hC2, hkj⟩
        · exact operG_mono (hV j) (fun u st3 h3 => ⟨fun e => absurd e h1, h3⟩) h2
      · have honly : ∀ j, j ∈ Region.ready .any ops listed → j = k := fun j hj => by
          apply Decidable.byContradiction
          intro hne
          obtain ⟨hjun, oj, hoj, hall⟩ := mem_ready.1 hj
          have clash : ∀ m : Nat, listed.getD m true = false → ∀ e ∈ oj.after, Region.binds .any e = true → e.on = m → False := fun m h0 e he hb heq => by
            have h1 := hall e he hb
            rw [heq] at h1
            rcases Nat.lt_or_ge m listed.size with h' | h'
            · simp [h'] at h0 h1; rw [h0] at h1; cases h1
            · simp [Array.getElem?_eq_none h'] at h1
          have hno : ∀ e ∈ oj.after, Region.binds .any e = true → e.on ≠ k ∧ D e.on = false := fun e he hb => by
            refine ⟨fun heq => clash k hkun e he hb heq, ?_⟩
            cases hd : D e.on with
            | false => rfl
            | true => exact (clash e.on (hDl _ hd) e he hb rfl).elim
          have q2 := (hf' j oj hoj hne hjun hno).2
          unfold commN at q2
          split at q2
          · omega
          · omega
          · cases q2
        refine ⟨(fun h => by rw [h] at hr'; cases hr'), fun j hj => ?_⟩
        have := honly j hj
        subst this
        exact ⟨o, h0, operG_mono (hV _) (fun v st' h' => ih p _ _ _ hB' h') h⟩
    | two j k p q =>
      simp only [okPlan, Bool.and_eq_true] at hB
      obtain ⟨⟨hr, hB1⟩, hB2⟩ := hB
      have he : Region.ready .any ops listed = [j, k] := by simpa using hr
      unfold vcPlan at h
      obtain ⟨ha, hb⟩ := h
      refine ⟨(fun h => by rw [h] at he; cases he), fun i hi => ?_⟩
      rw [he] at hi
      rcases List.mem_cons.1 hi with rfl | hi
      · split at ha
        case h_2 => exact ha.elim
        rename_i o h0
        exact ⟨o, h0, operG_mono (hV _) (fun v st' h' => ih p _ _ _ hB1 h') (operN_W W _ (operGN_iff.1 ha))⟩
      · have := List.mem_singleton.1 hi
        subst this
        split at hb
        case h_2 => exact hb.elim
        rename_i o h0
        exact ⟨o, h0, operG_mono (hV _) (fun v st' h' => ih q _ _ _ hB2 h') (operN_W W _ (operGN_iff.1 hb))⟩
theorem goodX : Good true (vcOpX P T) := ⟨fun hk h => vcOpX_mono hk h, fun h st K => vcOpX_congr h st K, fun hc => vcOpX_det hc, fun ho ρ st K h => vcOpX_app ho ρ st K h⟩

theorem vcAny_of {ops : Array Oper} {V : Nat → Op → (Operand → AV) → St → (AV → St → Prop) → Prop} (hle : ∀ {j : Nat} {o : Op} {ρ : Operand → AV} {st : St} {K : AV → St → Prop}, V j o ρ st K → vcOp P T o ρ st K) {K : Fr → St → Prop} : ∀ (n : Nat) (listed : Array Bool) (fr : Fr) (st : St), anyG V ops K n listed fr st → vcAny P T ops K n listed fr st
  | 0, listed, fr, st, h => by
    unfold vcAny
    rw [h.1]
    exact h.2
  | n + 1, listed, fr, st, h => by
    unfold vcAny
    split
    · rename_i he
      exact h.1 he
    · rename_i i is he
      intro j hj
      obtain ⟨o, ho, hv⟩ := h.2 j (by rw [he]; exact hj)
      refine ⟨o, ho, operG_iff.2 (guard0_mono (fun h => vcOp_mono (fun v st' h => vcAny_of hle n _ _ _ h) (hle h)) (fun h => vcAny_of hle n _ _ _ h) hv)⟩

theorem callP_le {f : FuncId} {args : List AV} {st : St} {K : AV → St → Prop} (h : callP P f args st K) : VCall P f args st K := by
  rcases h with ⟨h0, h1, h2⟩ | ⟨h0, h3, h1, h2⟩
  · exact .p h0 h1 h2
  · exact .w h0 h3 h1 h2
theorem vcOpX_le {o : Op} {ρ : Operand → AV} {st : St} {K : AV → St → Prop} (h : vcOpX P T o ρ st K) : vcOp P T o ρ st K := by
  cases o with
  | call c =>
    cases hc : c.callee with
    | value f =>
      simp only [vcOpX, vcOp, hc] at h ⊢
      revert h
      repeat' split
      all_goals intro h
      all_goals first | exact callP_le h | exact h
    | builtin b => exact (vcOpE_iff.1 (by simpa only [vcOpX, hc] using h)).2
    | invoke r m => simp only [vcOpX, hc] at h
  | _ => exact h

theorem opsGX_of {ops : Array Oper} {K : Fr → St → Prop} : ∀ (l : List Oper) (fr : Fr) (st : St), vcOpsX P T ops l fr st K → opsG (vcOpX P T) ops l fr st K
  | [], _, _, h => h
  | _ :: l, _, _, h => guard0_mono (fun h => vcOpX_mono (fun _ _ h => opsGX_of l _ _ h) h) (fun h => opsGX_of l _ _ h) (operGX_iff.1 h)

/-- **one walk serves** -/
theorem draw_any {ops : Array Oper} {K : Fr → St → Prop} {fr : Fr} {st : St} : VDraw P T ops K fr st → vcAny P T ops (fun fr' st' => ∃ fr0, Fr.le (dsts ops) fr' fr0 ∧ K fr0 st') ops.size (Array.replicate ops.size false) fr st
  | .e hd h => by
    have := anyG_lex goodX ops.toList 0 (Array.replicate ops.size false) fr st (by simp) (by rw [Array.length_toList]; exact hd) (opsGX_of _ _ _ h)
    rw [Array.length_toList] at this
    exact vcAny_mono _ _ (fun fr' st' h => ⟨fr', Fr.le_refl _ _, h⟩) (vcAny_of (fun h => vcOpX_le h) _ _ _ _ this)
  | .x hd h => by
    have := anyG_lex goodX ops.toList 0 (Array.replicate ops.size false) fr st (by simp) (by rw [Array.length_toList]; exact hd) (opsGX_of _ _ _ h)
    rw [Array.length_toList] at this
    exact vcAny_mono _ _ (fun fr' st' h => ⟨fr', Fr.le_refl _ _, h⟩) (vcAny_of (fun h => vcOpX_le h) _ _ _ _ this)
  | .any h => vcAny_mono _ _ (fun fr' st' h => ⟨fr', Fr.le_refl _ _, h⟩) h
  | .n p hp h => vcAny_mono _ _ (fun fr' st' h => ⟨fr', Fr.le_refl _ _, h⟩) (vcAny_of (fun h => vcW_le h) _ _ _ _ (anyG_plan _ _ p _ fr st hp h))
  | .cut p K' hp h hc => vcAny_mono _ _ (fun fr' st' h => hc fr' st' h.1 h.2) (vcAny_of (fun h => vcW_le h) _ _ _ _ (anyG_plan _ _ p _ fr st hp (vcPlan_keeps p h)))
end
end Go.Proofs.YtfhodppaelfcfaaDoor
