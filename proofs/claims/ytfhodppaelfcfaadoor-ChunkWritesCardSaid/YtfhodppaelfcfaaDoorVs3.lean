/- The operations over abstract values: arithmetic, comparisons, parts, addresses. No statement of its own. -/
import Derived.Test.YtfhodppaelfcfaaDoorVs2
namespace Go.Proofs.YtfhodppaelfcfaaDoor
open Go.RowKit

section
variable {base : Nat} {J : Nat → Nat → Prop} {w0 : World} {st : St} {μ : Nat → Nat} {σ : Nat → Tkt} {w w' : World} {P : Program} {T : Tab} {K : AV → St → Prop}

theorem Rp.of_lit {I : Nat → Nat → Prop} {hl : Nat} {tk : List Nat} {v u : Value} (h : Rp w I hl μ tk σ (.lit v) u) : u = v := by cases h; rfl

/-- an operation that leaves the world alone -/
def Pu (P : Program) (w : World) (A : AV → Value → Prop) (s : Sem Value) (K1 : AV → Prop) : Prop := ∃ v r, s.run P w = .ok v w ∧ K1 r ∧ A r v
theorem Pu.lit {s : Sem Value} {K1 : AV → Prop} {v : Value} (hs : s.run P w = .ok v w) (hk : K1 (.lit v)) : Pu P w (At base J st μ σ w) s K1 := ⟨v, _, hs, hk, .lit v⟩
theorem Pu.fin (h : Ok base J w0 st μ σ w) {s : Sem Value} (hp : Pu P w (At base J st μ σ w) s fun r => K r st) {n : Sem Next} (hn : n = (do pure (.value (← s)))) : Fin P (NN base J w0 st μ σ w K) (n.run P w) := by
  obtain ⟨v, r, h1, h2, h3⟩ := hp
  rw [hn, Sem.run_bind, h1]
  exact NN.same h h2 h3

theorem binInt_sound {op : BinOp} {k : IntKind} {a b : Int} {K1 : AV → Prop} (t : TypeId) (hv : binInt op k a b K1) : Pu P w (At base J st μ σ w) (Go.binOp op t (.int k a) (.int k b)) K1 := by
  cases op <;> simp only [binInt] at hv
  case add => exact Pu.lit (v := .int k (k.wrap (a + b))) (by simp [Go.binOp, Op.intArith]) (hv _ rfl)
  case sub => exact Pu.lit (v := .int k (k.wrap (a - b))) (by simp [Go.binOp, Op.intArith]) (hv _ rfl)
  case mul => exact Pu.lit (v := .int k (k.wrap (a * b))) (by simp [Go.binOp, Op.intArith]) (hv _ rfl)
  case quo => exact Pu.lit (v := .int k (k.wrap (a.tdiv b))) (by simp [Go.binOp, Op.intDiv, hv.1]) (hv.2 _ rfl)
  case rem => exact Pu.lit (v := .int k (a.tmod b)) (by simp [Go.binOp, Op.intDiv, hv.1]) hv.2
  case eql => exact Pu.lit (v := .bool (a == b)) (by simp [Go.binOp, Op.intCmp]) hv
  case neq => exact Pu.lit (v := .bool (a != b)) (by simp [Go.binOp, Op.intCmp]) hv
  case lss => exact Pu.lit (v := .bool (decide (a < b))) (by simp [Go.binOp, Op.intCmp]) hv
  case leq => exact Pu.lit (v := .bool (decide (a ≤ b))) (by simp [Go.binOp, Op.intCmp]) hv
  case gtr => exact Pu.lit (v := .bool (decide (a > b))) (by simp [Go.binOp, Op.intCmp]) hv
  case geq => exact Pu.lit (v := .bool (decide (a ≥ b))) (by simp [Go.binOp, Op.intCmp]) hv
  case and => exact Pu.lit (v := .int k (k.wrap ((BitVec.ofInt k.bits a &&& BitVec.ofInt k.bits b).toNat : Int))) (by simp [Go.binOp, Op.intBits]) (hv _ rfl)
  case shr => exact Pu.lit (v := .int k (a.fdiv (2 ^ min b.toNat k.bits))) (by simp [Go.binOp, Op.shift, show ¬ b < 0 by omega]) (hv.2 _ rfl)

theorem data_len (a : ByteArray) : a.data.toList.length = a.size := Array.length_toList
theorem toList_loop_eq (a : ByteArray) : ∀ (n i : Nat) (r : List UInt8), a.size - i = n → ByteArray.toList.loop a i r = r.reverse ++ a.data.toList.drop i := by
  have hd := data_len a
  intro n
  induction n with
  | zero =>
    intro i r h
    rw [ByteArray.toList.loop, if_neg (by omega), List.drop_eq_nil_of_le (by omega), List.append_nil]
  | succ n ih =>
    intro i r h
    have hl : i < a.data.toList.length := by omega
    rw [ByteArray.toList.loop, if_pos (by omega), ih (i + 1) _ (by omega), List.drop_eq_getElem_cons hl, List.reverse_cons, List.append_assoc]
    have hs : i < a.data.size := by simpa using hl
    congr 1
    show [a.get! i] ++ _ = _
    simp [ByteArray.get!]
    exact getElem!_pos a.data i hs
theorem toList_eq (a : ByteArray) : a.toList = a.data.toList := by
  rw [ByteArray.toList, toList_loop_eq a _ 0 [] rfl]
  rfl
theorem toList_beq (a b : ByteArray) : (a.toList == b.toList) = true ↔ a = b := by
  rw [beq_iff_eq, toList_eq, toList_eq]
  constructor
  · intro h
    cases a; cases b
    congr
    exact Array.ext' h
  · intro h; rw [h]

theorem binStr_sound {op : BinOp} {a b : ByteArray} {K1 : AV → Prop} (t : TypeId) (hv : binStr op a b K1) : Pu P w (At base J st μ σ w) (Go.binOp op t (.string a) (.string b)) K1 := by
  cases op <;> simp only [binStr] at hv
  case add =>
    have h63 : ¬ (((a.size + b.size : Nat) : Int) > IntKind.i64.max) := by
      have := hv.1
      have e : IntKind.i64.max = 9223372036854775807 := by decide
      rw [e]
      unfold maxLen at this
      omega
    exact Pu.lit (v := .string (a ++ b)) (by simp only [Go.binOp, Op.stringOp, if_neg h63, Sem.run_pure]) hv.2
  case eql => exact Pu.lit (v := .bool (a.toList == b.toList)) (by simp [Go.binOp, Op.stringOp]) (hv _ (toList_beq a b))
  case neq => exact Pu.lit (v := .bool (!(a.toList == b.toList))) (by simp [Go.binOp, Op.stringOp]) (hv _ (by rw [← toList_beq a b]; simp))
  case lss => exact Pu.lit (v := .bool (Op.bytesLess a.toList b.toList)) (by simp [Go.binOp, Op.stringOp]) hv
  case leq => exact Pu.lit (v := .bool (Op.bytesLess a.toList b.toList || a.toList == b.toList)) (by simp [Go.binOp, Op.stringOp]) (hv _ rfl)
  case gtr => exact Pu.lit (v := .bool (!(Op.bytesLess a.toList b.toList || a.toList == b.toList))) (by simp [Go.binOp, Op.stringOp]) (hv _ rfl)
  case geq => exact Pu.lit (v := .bool (!(Op.bytesLess a.toList b.toList))) (by simp [Go.binOp, Op.stringOp]) hv

theorem eqlB_sound {op : BinOp} {t : TypeId} {x y : Value} {q : Bool} {K1 : AV → Prop} (hv : eqlB op q K1)
    (he : ∀ op', (op' = .eql ∨ op' = .neq) → Go.binOp op' t x y = (if op' = .eql then (do pure (.bool (← Op.equal t x y))) else (do pure (.bool (!(← Op.equal t x y))))))
    (hq : (Op.equal t x y).run P w = .ok q w) : Pu P w (At base J st μ σ w) (Go.binOp op t x y) K1 := by
  cases op <;> simp only [eqlB] at hv
  case eql => exact Pu.lit (v := .bool q) (by rw [he _ (.inl rfl), if_pos rfl, Sem.run_bind, hq]; rfl) hv
  case neq => exact Pu.lit (v := .bool (!q)) (by rw [he _ (.inr rfl), if_neg (by decide), Sem.run_bind, hq]; rfl) hv

theorem equal_unfold : ∃ d, ∀ (t : TypeId) (x y : Value), Op.equal t x y = Op.equalIn (d + 1) t x y := ⟨9999, fun _ _ _ => rfl⟩

theorem cellEq_sound (hT : T.Ok P) {d : Nat} {t : TypeId} {x y : Option AV} {a b : Option Value} {A : Prop} (h : cellEq ((T t).map TI.desc) x y = some A) (hx : ∀ c u, x = some c → a = some u → At base J st μ σ w c u) (hy : ∀ c u, y = some c → b = some u → At base J st μ σ w c u)
    (ha : x.isSome = true → a.isSome = true) (hb : y.isSome = true → b.isSome = true) : ∃ u v q, a = some u ∧ b = some v ∧ (∀ (xs : Array Value) (off : Nat), xs[off]? = some u → (part t xs off).run P w = .ok u w) ∧ (∀ (xs : Array Value) (off : Nat), xs[off]? = some v → (part t xs off).run P w = .ok v w) ∧ (Op.equalIn (d + 1) t u v).run P w = .ok q w ∧ (q = true ↔ A) := by
  unfold cellEq at h
  split at h
  · rename_i k0 k m k' n hd
    have hu := hT.und hd
    split at h
    · rename_i hk
      have hk := of_decide_eq_true hk
      subst hk
      cases h
      obtain ⟨u, rfl⟩ := Option.isSome_iff_exists.1 (ha rfl)
      obtain ⟨v, rfl⟩ := Option.isSome_iff_exists.1 (hb rfl)
      have eu := (hx _ _ rfl rfl).of_lit
      have ev := (hy _ _ rfl rfl).of_lit
      subst eu
      subst ev
      exact ⟨_, _, m == n, rfl, rfl, fun xs off h => by simp [part, isAgg, run_underlying hu, h], fun xs off h => by simp [part, isAgg, run_underlying hu, h], by simp [Op.equalIn, run_underlying hu], beq_iff_eq⟩
    · cases h
  · rename_i m n hd
    have hu := hT.und hd
    cases h
    obtain ⟨u, rfl⟩ := Option.isSome_iff_exists.1 (ha rfl)
    obtain ⟨v, rfl⟩ := Option.isSome_iff_exists.1 (hb rfl)
    have eu := (hx _ _ rfl rfl).of_lit
    have ev := (hy _ _ rfl rfl).of_lit
    subst eu
    subst ev
    refine ⟨_, _, m == n, rfl, rfl, fun xs off h => by simp [part, isAgg, run_underlying hu, h], fun xs off h => by simp [part, isAgg, run_underlying hu, h], by simp [Op.equalIn, run_underlying hu], ?_⟩
    rw [beq_toListBytes]
    exact toList_beq m n
  · rename_i m n hd
    have hu := hT.und hd
    cases h
    obtain ⟨u, rfl⟩ := Option.isSome_iff_exists.1 (ha rfl)
    obtain ⟨v, rfl⟩ := Option.isSome_iff_exists.1 (hb rfl)
    have eu := (hx _ _ rfl rfl).of_lit
    have ev := (hy _ _ rfl rfl).of_lit
    subst eu
    subst ev
    exact ⟨_, _, m == n, rfl, rfl, fun xs off h => by simp [part, isAgg, run_underlying hu, h], fun xs off h => by simp [part, isAgg, run_underlying hu, h], by simp [Op.equalIn, run_underlying hu], beq_iff_eq⟩
  · cases h
theorem cellsEq_sound (hT : T.Ok P) {d : Nat} {cs ds : List AV} {us vs : Array Value} (e1 : cs.length = us.size) (e2 : ds.length = vs.size)
    (hr1 : ∀ (j : Nat) a u, cs[j]? = some a → us[j]? = some u → At base J st μ σ w a u) (hr2 : ∀ (j : Nat) a u, ds[j]? = some a → vs[j]? = some u → At base J st μ σ w a u) : ∀ (fs : List Go.Field) (A : Prop), cellsEq T cs ds fs = some A →
    ∃ q : Bool, (Op.eqFields (d + 1) us vs fs).run P w = .ok q w ∧ (q = true ↔ A)
  | [], A, h => by
    cases h
    exact ⟨true, by simp [Op.eqFields], by simp⟩
  | f :: fs, A, h => by
    unfold cellsEq at h
    split at h
    · rename_i A1 hn hA1
      split at h
      · rename_i B hB
        cases h
        have hn' : f.name ≠ "_" := by simpa using hn
        obtain ⟨u, v, q, q1, q2, q3, q4, q5, q6⟩ := cellEq_sound (d := d) (a := us[f.offset]?) (b := vs[f.offset]?) hT hA1 (fun c u hc hu => hr1 _ c u hc hu) (fun c u hc hu => hr2 _ c u hc hu)
          (fun h => by
            obtain ⟨c, hc⟩ := Option.isSome_iff_exists.1 h
            have := (List.getElem?_eq_some_iff.1 hc).1
            rw [Array.getElem?_eq_getElem (by omega)]; rfl)
          (fun h => by
            obtain ⟨c, hc⟩ := Option.isSome_iff_exists.1 h
            have := (List.getElem?_eq_some_iff.1 hc).1
            rw [Array.getElem?_eq_getElem (by omega)]; rfl)
        obtain ⟨q', r1, r2⟩ := cellsEq_sound hT e1 e2 hr1 hr2 fs B hB
        simp only [Op.eqFields, hn', ne_eq, not_false_eq_true, if_true, Sem.run_bind, q3 _ _ q1, q4 _ _ q2, q5, Result.andThen_ok]
        cases q
        · exact ⟨false, by simp, by simp; intro e; exact absurd (q6.2 e) (by simp)⟩
        · refine ⟨q', by simpa using r1, ?_⟩
          rw [r2]
          simp [q6.1 rfl]
      · cases h
    · cases h

theorem vcBin_sound (hT : T.Ok P) {op : BinOp} {t : TypeId} {x y : AV} {a b : Value} {K1 : AV → Prop} (hx : At base J st μ σ w x a) (hy : At base J st μ σ w y b) (hv : vcBin P T op t x y K1) :
    Pu P w (At base J st μ σ w) (Go.binOp op t a b) K1 := by
  unfold vcBin at hv
  split at hv
  · rename_i cs ds
    split at hv
    · rename_i fs hd
      have hu := hT.und hd
      obtain ⟨hst, hv⟩ := hv
      have hst := (Bool.or_eq_false_iff.1 hst).1
      split at hv
      · rename_i A hA
        cases hx with
        | agg _ us e1 hr1 =>
          cases hy with
          | agg _ vs e2 hr2 =>
            obtain ⟨d, hd⟩ := equal_unfold
            have hfs : P.fieldsOf t = fs := by simp [Program.fieldsOf, hu]
            obtain ⟨q, hq, hiff⟩ := cellsEq_sound (d := 9998) hT e1 e2 hr1 hr2 fs.toList A hA
            refine eqlB_sound (hv q hiff) (fun op' h => by rcases h with rfl | rfl <;> rfl) ?_
            rw [show Op.equal t (.agg us) (.agg vs) = Op.equalIn (9999 + 1) t (.agg us) (.agg vs) from rfl, run_equalIn_struct w 9999 t us vs (by rw [hfs]; exact hu) hst, hfs]
            exact hq
      · exact hv.elim
    · exact hv.elim
  · cases hx; cases hy
    split at hv
    · rename_i hk
      have hk' := of_decide_eq_true hk
      subst hk'
      exact binInt_sound t hv
    · exact hv.elim
  · cases hx; cases hy
    exact binStr_sound t hv
  · cases hx; cases hy
    split at hv
    · rename_i hd
      have hu := hT.und hd
      exact eqlB_sound hv (fun op' h => by rcases h with rfl | rfl <;> rfl) (by obtain ⟨d, hd⟩ := equal_unfold; rw [hd]; simp [Op.equalIn, run_underlying hu])
    · exact hv.elim
  · cases hx; cases hy
    split at hv
    · rename_i hd
      have hu := hT.und hd
      exact eqlB_sound hv (fun op' h => by rcases h with rfl | rfl <;> rfl) (by obtain ⟨d, hd⟩ := equal_unfold; rw [hd]; simp [Op.equalIn, run_underlying hu])
    · exact hv.elim
  · cases hx; cases hy
    split at hv
    · rename_i hd
      have hu := hT.und hd
      exact eqlB_sound hv (fun op' h => by rcases h with rfl | rfl <;> rfl) (by obtain ⟨d, hd⟩ := equal_unfold; rw [hd]; simp [Op.equalIn, run_underlying hu])
    · exact hv.elim
  · cases hx; cases hy
    split at hv
    · rename_i hd
      have hu := hT.und hd
      exact eqlB_sound hv (fun op' h => by rcases h with rfl | rfl <;> rfl) (by obtain ⟨d, hd⟩ := equal_unfold; rw [hd]; simp [Op.equalIn, run_underlying hu])
    · exact hv.elim
  · cases hx; cases hy
    split at hv
    · rename_i hd
      have hu := hT.und hd
      exact eqlB_sound hv (fun op' h => by rcases h with rfl | rfl <;> rfl) (by obtain ⟨d, hd⟩ := equal_unfold; rw [hd]; simp [Op.equalIn, run_underlying hu])
    · exact hv.elim
  · cases hx; cases hy
    split at hv
    · rename_i hd
      have hu := hT.und hd
      exact eqlB_sound hv (fun op' h => by rcases h with rfl | rfl <;> rfl) (by obtain ⟨d, hd⟩ := equal_unfold; rw [hd]; simp [Op.equalIn, run_underlying hu])
    · exact hv.elim
  · cases hx; cases hy
    split at hv
    · rename_i hd
      have hu := hT.und hd
      exact eqlB_sound hv (fun op' h => by rcases h with rfl | rfl <;> rfl) (by obtain ⟨d, hd⟩ := equal_unfold; rw [hd]; simp [Op.equalIn, run_underlying hu])
    · exact hv.elim
  · cases hx; cases hy
    split at hv
    · rename_i hd
      have hu := hT.und hd
      exact eqlB_sound hv (fun op' h => by rcases h with rfl | rfl <;> rfl) (by obtain ⟨d, hd⟩ := equal_unfold; rw [hd]; simp [Op.equalIn, run_underlying hu])
    · exact hv.elim
  · cases hx; cases hy
    split at hv
    · rename_i hd
      have hu := hT.und hd
      exact eqlB_sound hv (fun op' h => by rcases h with rfl | rfl <;> rfl) (by obtain ⟨d, hd⟩ := equal_unfold; rw [hd]; simp [Op.equalIn, run_underlying hu])
    · exact hv.elim
  · cases hx; cases hy
    split at hv
    · rename_i hd
      have hu := hT.und hd
      exact eqlB_sound hv (fun op' h => by rcases h with rfl | rfl <;> rfl) (by obtain ⟨d, hd⟩ := equal_unfold; rw [hd]; simp [Op.equalIn, run_underlying hu])
    · exact hv.elim
  · exact hv.elim

theorem vcUn_sound {op : UnOp} {x : AV} {a : Value} {K1 : AV → Prop} (hx : At base J st μ σ w x a) (hv : vcUn op x K1) : Pu P w (At base J st μ σ w) (Op.unary op a) K1 := by
  unfold vcUn at hv
  split at hv
  · cases hx
    rename_i b
    exact Pu.lit (v := .bool (!b)) (by simp [Op.unary]) hv
  · cases hx
    rename_i k n
    exact Pu.lit (v := .int k (k.wrap (0 - n))) (by simp [Op.unary, Op.intArith]) (hv _ rfl)
  · exact hv.elim

theorem vcLenS_sound {x : AV} {a : Value} {K1 : AV → Prop} {t ty : TypeId} (hx : At base J st μ σ w x a) (hu : P.underlying t = some .string) (hv : vcLenS x K1) : Pu P w (At base J st μ σ w) (Builtin.len_ #[t] ty #[a]) K1 := by
  unfold vcLenS at hv
  split at hv
  · cases hx
    rename_i s
    exact Pu.lit (v := .int .i64 s.size) (by simp [Builtin.len_, run_underlying hu, goInt]) hv
  · exact hv.elim
theorem vcLenL_sound {x : AV} {a : Value} {K1 : AV → Prop} {t ty e : TypeId} (hx : At base J st μ σ w x a) (hu : P.underlying t = some (.slice e)) (hv : vcLenL x K1) : Pu P w (At base J st μ σ w) (Builtin.len_ #[t] ty #[a]) K1 := by
  unfold vcLenL at hv
  split at hv
  · cases hx
    · exact Pu.lit (v := .int .i64 0) (by simp [Builtin.len_, run_underlying hu, goInt]) hv
    · rename_i t sz es g o cap us hs hn hm hc hr ht1 ht2
      exact Pu.lit (v := .int .i64 es.length) (by simp [Builtin.len_, run_underlying hu, goInt]) hv
  · cases hx
    rename_i n c
    exact Pu.lit (v := .int .i64 n) (by simp [Builtin.len_, run_underlying hu, goInt]) hv
  · rename_i p lo n cap sz
    cases hx
    exact Pu.lit (v := .int .i64 n) (by simp [Builtin.len_, run_underlying hu, goInt]) hv
  · exact hv.elim

theorem minA_sound {mx : Bool} {x : AV} {a : Value} {K1 : AV → Prop} : ∀ (r : List AV) (bs : List Value) (x : AV) (a : Value), At base J st μ σ w x a → r.length = bs.length → (∀ (j : Nat) y b, r[j]? = some y → bs[j]? = some b → At base J st μ σ w y b) →
    minA (if mx then fun a b => if b > a then b else a else fun a b => if b < a then b else a) x r K1 → Pu P w (At base J st μ σ w) (bs.foldlM (if mx then Builtin.max2 else Builtin.min2) a) K1
  | [], [], x, a, hx, _, _, hv => ⟨a, x, rfl, hv, hx⟩
  | [], _ :: _, _, _, _, h, _, _ => by simp at h
  | _ :: _, [], _, _, _, h, _, _ => by simp at h
  | y :: r, b :: bs, x, a, hx, hl, hr, hv => by
    have hy := hr 0 y b rfl rfl
    unfold minA at hv
    split at hv
    · cases hx; cases hy
      rename_i k n k' m
      have := minA_sound (mx := mx) (x := x) (a := a) r bs _ _ (Rp.lit (.int k (if mx then (if m > n then m else n) else (if m < n then m else n)))) (by simpa using hl) (fun j y b h1 h2 => hr (j + 1) y b h1 h2) (by cases mx <;> exact hv)
      obtain ⟨v, q, h1, h2, h3⟩ := this
      refine ⟨v, q, ?_, h2, h3⟩
      rw [List.foldlM_cons, Sem.run_bind]
      cases mx
      · simpa [Builtin.min2] using h1
      · simpa [Builtin.max2] using h1
    · exact hv.elim
end
end Go.Proofs.YtfhodppaelfcfaaDoor
