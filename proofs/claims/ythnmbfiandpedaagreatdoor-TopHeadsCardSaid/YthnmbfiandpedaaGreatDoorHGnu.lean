/- A range over a function whose iterator keeps a variable of its own. No statement of its own. -/
import Derived.RangeFuncNested
import Derived.RangeFuncBound
import Derived.RangeFuncCalls
import Derived.RangeFuncLeaves
import Derived.RangeFuncFrom
import Derived.Shelf.Abstract
import Derived.Shelf.RegionOpen
import Derived.WalkKit
import Derived.OwnWalkIn
import Derived.TacticsInMore
import Derived.LoopNIn
import Derived.LoopIn
import Derived.Test.YthnmbfiandpedaaGreatDoorProg
import Derived.Test.YthnmbfiandpedaaGreatDoorHGsb
import Derived.Lib.ItoaNum
import Derived.Lib.AppendIntMem
import Derived.Test.YthnmbfiandpedaaGreatDoorHGpf
set_option linter.unusedSimpArgs false
set_option linter.unusedVariables false
namespace Go.Proofs.YthnmbfiandpedaaGreatDoor
open Go.RowKit Go.Shelf

/-- it stays as it is where the variable C is written -/
def StaysAt {β : Type} (C : Nat) (J : β → World → Prop) : Prop := ∀ s W v, J s W → J s (W.setCell ⟨C, 0, none⟩ v)
/-- what is asked of an iterator that writes the variable C -/
def SeqC {α : Type} (F : Fence) (n : Nat) (P : Program) (g : Nat) (lb : Array Value) (encs : α → Array Value) (Kp : World → World → Prop) (S Sp V : List α → Prop) (C : Nat) (w : World) : Prop :=
  ∀ (l : Nat) (J Jx : List α → World → Prop) (W : World), Below w.heap.size w W → (AbidesFrom W.heap.size J ∧ StaysAt C J) → (AbidesFrom W.heap.size Jx ∧ StaysAt C Jx) →
    (∀ pre x W1, J pre W1 → V (pre ++ [x]) → YieldAt F (n - 1) P l (encs x) W1 fun e W' =>
      (e = .returned (.bool true) ∧ J (pre ++ [x]) W' ∧ Kp W1 W') ∨ (e = .returned (.bool false) ∧ Jx (pre ++ [x]) W')) →
    J [] W →
    CallsIn F n P g (#[.func (.yield l) #[] #[]] ++ lb) W fun e W' => (∃ v, e = .returned v) ∧ ((∃ xs, S xs ∧ J xs W') ∨ (∃ pre, Sp pre ∧ Jx pre W'))

variable {F : Fence} {n : Nat} {P : Program}
theorem range_cell {α : Type} {g : Operand} {ps : Array Tmp} {assign body : Code} {Q : Exit → Act → World → Prop} {a : Act} {w : World}
    (hro : F.round = none) (h1 : 1 ≤ n) {gf : Nat} {lb : Array Value} (hg : a.eval g = .func (.func gf) #[] lb) (hFg : F.fn gf) (eg : ∀ args w, (callFunc gf args).run P w = .ok (.enter gf args) w)
    {encs : α → Array Value} {Kp : World → World → Prop} {S Sp V : List α → Prop} {C : Nat} (hC : C < w.heap.size) (hseq : SeqC F (n - 1) P gf lb encs Kp S Sp V C w)
    (hKt : ∀ {A B C : World}, Kp A B → Kp B C → Kp A C) (hKb : ∀ (W : World) (l : Nat) (o o' : Obj), w.heap.size ≤ l → W.heap[l]? = some o → o.isCells = false → o.isWalk = false → Kp W (W.putObj l o')) (hps : ∀ x, (encs x).size = ps.size)
    (I : List α → World → Prop) (Ix : Code → List α → World → Prop) (hI : OwnFrom w.heap.size I) (hIx : ∀ c, OwnFrom w.heap.size (Ix c)) (sI : StaysAt C I) (sIx : ∀ c, StaysAt C (Ix c)) (h0 : I [] w) (a₁ : α → Act)
    (hassign : ∀ (l : Nat) (x : α) (W : World) (K : Act → World → Prop), K (a₁ x) W →
      assign.wpIn (F.inRound l) (n - 1 - 1) P (Exit.then K (fun _ _ _ => False)) { tmps := (ps.zip (encs x)).foldl (fun t (p, v) => t.setIfInBounds p v) a.tmps, defers := [] } W)
    (hbody : ∀ (l : Nat) (pre : List α) (x : α) (W : World), I pre W → V (pre ++ [x]) → body.wpIn (F.inRound l) (n - 1 - 1) P (ownPostK Kp I Ix (pre ++ [x]) W) (a₁ x) W)
    (hdone : ∀ (D : Nat) (xs : List α) (W : World), w.heap.size ≤ D → S xs → I xs W → W.heap[D]? = some (.deferred (some [])) → Q .normal { a with defers := { target := .collected D, args := #[] } :: a.defers } W)
    (hstop : ∀ (D : Nat) (c : Code) (pre : List α) (W : World), w.heap.size ≤ D → Sp pre → Ix c pre W → W.heap[D]? = some (.deferred (some [])) → c.wpIn F n P Q { a with defers := { target := .collected D, args := #[] } :: a.defers } W) :
    (Code.rangeFunc g ps assign body).wpIn F n P Q a w := by
  refine wpIn_rangeFunc fun fn hfn => ?_
  rw [hro]
  obtain ⟨mk, hmk⟩ : ∃ mk : LoopState → Option Code → Loop, mk = fun st pe => { state := st, pending := pe, fn, tmps := a.tmps, params := ps, assign, body, defers := w.heap.size } := ⟨_, rfl⟩
  obtain ⟨V, hV⟩ : ∃ V, (w.alloc (.deferred (some []))).alloc (.loop (mk .ready none)) = V := ⟨_, rfl⟩
  have vl : V.heap[w.heap.size + 1]? = some (.loop (mk .ready none)) := by
    rw [← hV]
    have := World.alloc_heap_new (w.alloc (.deferred (some []))) (.loop (mk .ready none))
    rwa [World.size_alloc] at this
  have vd : V.heap[w.heap.size]? = some (.deferred (some [])) := by
    rw [← hV]
    exact (Below.heap_alloc _ _ _ (by simp)).trans (World.alloc_heap_new w _)
  have vs : V.heap.size = w.heap.size + 2 := by rw [← hV]; simp
  have vi : I [] V := by
    rw [← hV]
    exact hI.alloc _ (hI.alloc _ h0)
  have vb : Below w.heap.size w V := by
    rw [← hV]
    exact ((Below.refl _ w).alloc (Nat.le_refl _) _).alloc (by simp) _
  have up : ∀ {A : World} {row : Option Nat}, (∀ r, row = some r → V.heap.size ≤ r ∧ ∃ o : Obj, A.heap[r]? = some o ∧ o.isWalk = true) → ∀ r, row = some r → w.heap.size ≤ r ∧ ∃ o : Obj, A.heap[r]? = some o ∧ o.isCells = false := fun hr r e => by
    obtain ⟨q1, o, q2, q3⟩ := hr r e
    exact ⟨by omega, o, q2, Obj.not_cells_of_walk q3⟩
  have keep : ∀ {A B : World} {row : Option Nat} {k : Nat} {o : Obj}, A.grownBy B row → (∀ r, row = some r → V.heap.size ≤ r ∧ ∃ o : Obj, A.heap[r]? = some o ∧ o.isWalk = true) → A.heap[k]? = some o → o.isWalk = false → B.heap[k]? = some o := fun hg hr hk ho =>
    (grownBy_keeps hg (fun r e => (hr r e).2) hk ho).trans hk
  have cellk : ∀ (W : World) (v : Value) (k : Nat), w.heap.size ≤ k → (W.setCell ⟨C, 0, none⟩ v).heap[k]? = W.heap[k]? := fun W v k hk => Below.heap_setCell W ⟨C, 0, none⟩ v k (by show k ≠ C; omega)
  refine ⟨w.heap.size + 1, [{ target := .collected w.heap.size, args := #[] }], V, { target := .fn (.func gf) lb, args := #[.func (.yield (w.heap.size + 1)) #[] #[]] }, V, gf,
    #[.func (.yield (w.heap.size + 1)) #[] #[]] ++ lb, V, ?_, ?_, ?_, ?_, fun _ => h1, ?_⟩
  · rw [← hV, hmk]
    exact run_enterLoop_outer _ _ _ _ _
  · simp only [resolve, hg]
    simp [go_sem]
  · intro f' hf'
    simp [Target.leads] at hf'
    subst hf'
    exact hFg
  · simp [invoke, go_sem, eg]
  · refine (hseq (w.heap.size + 1)
      (fun pre W => I pre W ∧ W.heap[w.heap.size + 1]? = some (.loop (mk .ready none)) ∧ W.heap[w.heap.size]? = some (.deferred (some [])))
      (fun pre W => ∃ c, Ix c pre W ∧ W.heap[w.heap.size + 1]? = some (.loop (mk .done (some c))) ∧ W.heap[w.heap.size]? = some (.deferred (some [])))
      V vb ⟨fun s A B row hs hg' hr => ⟨hI s A B row hs.1 hg' (up hr), keep hg' hr hs.2.1 rfl, keep hg' hr hs.2.2 rfl⟩, fun s W v hs => ⟨sI s W v hs.1, (cellk W v _ (by omega)).trans hs.2.1, (cellk W v _ (by omega)).trans hs.2.2⟩⟩
      ⟨fun s A B row hs hg' hr => by
        obtain ⟨c, q1, q2, q3⟩ := hs
        exact ⟨c, hIx c s A B row q1 hg' (up hr), keep hg' hr q2 rfl, keep hg' hr q3 rfl⟩, fun s W v hs => by
        obtain ⟨c, q1, q2, q3⟩ := hs
        exact ⟨c, sIx c s W v q1, (cellk W v _ (by omega)).trans q2, (cellk W v _ (by omega)).trans q3⟩⟩
      ?_ ⟨vi, vl, vd⟩).mono ?_
    · rintro pre x W ⟨hi, hl, hk⟩ hlen
      have hlt : w.heap.size + 1 < W.heap.size := (Array.getElem?_eq_some_iff.1 hl).1
      have hy := run_yield (P := P) (args := encs x) hl (by rw [hmk]; exact hps x)
      rw [hmk] at hy
      refine ⟨fn, _, assign, body, hy, roundIn_of_wpIn hfn (hassign _ x W _ ⟨_, run_beginRound hl (by rw [hmk]), ?_⟩)⟩
      obtain ⟨U, hU⟩ : ∃ U, W.putObj (w.heap.size + 1) (.loop { mk .ready none with state := .busy }) = U := ⟨_, rfl⟩
      rw [hU]
      have ul : U.heap[w.heap.size + 1]? = some (.loop { mk .ready none with state := .busy }) := by rw [← hU]; exact World.putObj_heap_same hlt
      have uk : U.heap[w.heap.size]? = some (.deferred (some [])) := by rw [← hU]; exact (World.putObj_heap_other (by omega)).trans hk
      have uw : Kp W U := by rw [← hU]; exact hKb _ _ _ _ (by omega) hl rfl rfl
      have ui : I pre U := by rw [← hU]; exact hI.putObj _ hi (by omega) hl rfl
      refine wpIn_mono (hbody _ pre x U ui hlen) ?_
      have fin : ∀ (jump : Option Code) (W3 : World), KeepsOthers U W3 → ∃ W4, W4 = W3.putObj (w.heap.size + 1) (.loop (mk (if jump.isNone then .ready else .done) jump)) ∧
          (Instr.endRound (w.heap.size + 1) jump).run P W3 = .ok (.bool jump.isNone) W4 ∧
          W3.heap[w.heap.size + 1]? = some (.loop { mk .ready none with state := .busy }) ∧ W4.heap[w.heap.size + 1]? = some (.loop (mk (if jump.isNone then .ready else .done) jump)) ∧ W4.heap[w.heap.size]? = some (.deferred (some [])) := fun jump W3 hk3 => by
        have hl3 := hk3.same _ _ ul rfl
        have hr3 := run_endRound (P := P) jump hl3
        rw [hmk] at hr3 hl3 ⊢
        exact ⟨_, rfl, hr3, hl3, World.putObj_heap_same (Array.getElem?_eq_some_iff.1 hl3).1, (World.putObj_heap_other (by omega)).trans (hk3.same _ _ uk rfl)⟩
      have leave : ∀ (c : Code) (W3 : World), KeepsOthers U W3 ∧ Ix c (pre ++ [x]) W3 → ∃ v W4, (Instr.endRound (w.heap.size + 1) (some c)).run P W3 = .ok v W4 ∧ ((Ending.returned v = .returned (.bool true) ∧ (I (pre ++ [x]) W4 ∧ W4.heap[w.heap.size + 1]? = some (.loop (mk .ready none)) ∧ W4.heap[w.heap.size]? = some (.deferred (some []))) ∧ Kp W W4) ∨
          (Ending.returned v = .returned (.bool false) ∧ ∃ c, Ix c (pre ++ [x]) W4 ∧ W4.heap[w.heap.size + 1]? = some (.loop (mk .done (some c))) ∧ W4.heap[w.heap.size]? = some (.deferred (some [])))) := fun c W3 hp => by
        obtain ⟨W4, e4, hr, hl3, hl4, hk4⟩ := fin (some c) W3 hp.1
        refine ⟨_, _, hr, .inr ⟨rfl, c, ?_, hl4, hk4⟩⟩
        rw [e4]
        exact (hIx c).putObj _ hp.2 (by omega) hl3 rfl
      rintro e a3 W3 hp
      cases e with
      | normal =>
        obtain ⟨hk3, hkp3, hi3⟩ := hp
        obtain ⟨W4, e4, hr, hl3, hl4, hk4⟩ := fin none W3 hk3
        refine ⟨_, _, hr, .inl ⟨rfl, ⟨?_, hl4, hk4⟩, ?_⟩⟩
        · rw [e4]
          exact hI.putObj _ hi3 (by omega) hl3 rfl
        · rw [e4]
          exact hKt (hKt uw hkp3) (hKb _ _ _ _ (by omega) hl3 rfl rfl)
      | ret => exact leave .ret W3 hp
      | exit id => exact leave (.exit id) W3 hp
      | goto t => exact leave (.goto t) W3 hp
      | panic ch => exact hp.elim
      | outgrown => exact hp.elim
    · rintro e W2 ⟨⟨v, rfl⟩, (⟨xs, hS, hi, hl, hk⟩ | ⟨pre, hSp, c, hi, hl, hk⟩)⟩
      · have hr := run_endLoop (P := P) hl (by rw [hmk]; simp)
        rw [hmk] at hr
        exact ⟨none, _, hr, hdone _ xs _ (Nat.le_refl _) hS (hI.putObj _ hi (by omega) hl rfl) ((World.putObj_heap_other (by omega)).trans hk)⟩
      · have hr := run_endLoop (P := P) hl (by rw [hmk]; simp)
        rw [hmk] at hr
        exact ⟨some c, _, hr, hstop _ c pre _ (Nat.le_refl _) hSp ((hIx c).putObj _ hi (by omega) hl rfl) ((World.putObj_heap_other (by omega)).trans hk)⟩
end Go.Proofs.YthnmbfiandpedaaGreatDoor
/- Numbers, read by the program and by the document. No statement of its own. -/
set_option linter.unusedSimpArgs false
set_option linter.unusedVariables false
set_option maxRecDepth 100000
namespace Go.Proofs.YthnmbfiandpedaaGreatDoor
open Go.RowKit
/-- numeral: a digit's worth, numbers of a base -/
theorem nworth_p (n : Int) (h0 : 0 ≤ n) (h1 : n ≤ 255) (hx : hexI n = true) : APure Tryz.prog 220 [.int .u8 n] (.i (worthI n)) [] := by
  refine APure.of rfl (ACalls.of_vc T_ok mixed Tryz.func220 rfl Tryz.call220 ?_)
  refine .p rfl (isDigit_p n) ?_
  unfold worthI
  unfold hexI at hx
  cases hd : digI n with
  | true =>
    have hd' := hd
    unfold digI at hd'
    simp only [Bool.and_eq_true, decide_eq_true_eq] at hd'
    intro c hc
    rw [IntWalk.u8_in _ (by omega)] at hc
    intro c2 hc2
    rw [IntWalk.i64_in _ (by omega)] at hc2
    exact reti (by rw [if_pos rfl]; omega)
  | false =>
    rw [hd, Bool.false_or] at hx
    simp only [Bool.and_eq_true, decide_eq_true_eq] at hx
    refine .p rfl (lower_p n h0 h1) ?_
    intro c hc
    rw [IntWalk.u8_in _ (by omega)] at hc
    intro c2 hc2
    rw [IntWalk.i64_in _ (by omega)] at hc2
    intro c3 hc3
    rw [IntWalk.i64_in _ (by omega)] at hc3
    exact reti (by rw [if_neg (by decide)]; omega)
def readQ (q : Int → Bool) (B : Nat) (s : ByteArray) (most : Nat) : Int × Int := if s.size = 0 ∨ allI q s = false then (0, 2) else rdL B most s.data.toList 0
theorem rdL_at {B most : Int} {s : ByteArray} {k : Nat} (hk : k < s.size) (n : Int) : rdL B most (s.data.toList.drop k) n = if most < worthI (s[k].toNat : Int) ∨ (most - worthI (s[k].toNat : Int)) / B < n then (0, 7) else rdL B most (s.data.toList.drop (k + 1)) (n * B + worthI (s[k].toNat : Int)) := by
  rw [List.drop_eq_getElem_cons (by rw [blen]; exact hk)]
  rfl
theorem nread_p {f : FuncId} {q : Int → Bool} (hq : ByteF f q) (hqx : ∀ n : Int, q n = true → hexI n = true) (B : Nat) (h2 : 2 ≤ B) (hB : B ≤ 16) (s : ByteArray) (hs : s.size < maxLen) (most : Nat) (hm : most < 2 ^ 62) : APure Tryz.prog 164 [.s s, .i B, .i most, .lit (.func (.func f) #[] #[])] (.tup [.i (readQ q B s most).1, .i (readQ q B s most).2]) [] := by
  have hmx : maxLen = 9223372036854775807 := rfl
  refine APure.of rfl (ACalls.of_vc T_ok mixed Tryz.func164 rfl Tryz.call164 ?_)
  intro t ht
  cases t with
  | true =>
    have : s.size = 0 := (emp_iff s).1 (ht.1 rfl)
    exact (by unfold readQ; rw [if_pos (.inl this)]; rfl)
  | false =>
    have hs0 : s.size ≠ 0 := fun e => by have := ht.2 ((emp_iff s).2 e); cases this
    refine .p rfl (allF_p hq s (by omega)) ?_
    cases ha : allI q s with
    | false => exact (by unfold readQ; rw [if_pos (.inr ha)]; rfl)
    | true =>
      have hR : readQ q B s most = rdL B most s.data.toList 0 := by unfold readQ; rw [if_neg (fun h => h.elim hs0 (fun h => by rw [ha] at h; cases h))]
      rw [hR]
      clear hR
      refine vc_loop [10, 24] (fun g vals st' => ∃ (k n : Nat), k + g = s.size ∧ vals = [.i n, .i k] ∧ n ≤ most ∧ rdL B most (s.data.toList.drop k) n = rdL B most s.data.toList 0) s.size rfl ⟨0, 0, by omega, rfl, by omega, rfl⟩ ?_
      rintro g vals st' ⟨k, n, hk, rfl, hn, hr⟩
      refine cnd_split (fun hd => ?_) (fun hd => ?_)
      · have hd := of_decide_eq_true hd
        have k1 : k < s.size := by omega
        have hb := s[k].toNat_lt
        have hx := hqx _ (allI_at ha k k1)
        have hw : 0 ≤ worthI (s[k].toNat : Int) ∧ worthI (s[k].toNat : Int) ≤ 15 := by
          have hx := hx
          unfold hexI at hx
          unfold worthI
          unfold digI at *
          simp only [Bool.or_eq_true, Bool.and_eq_true, decide_eq_true_eq] at hx ⊢
          split <;> omega
        obtain ⟨d, hd'⟩ := Int.eq_ofNat_of_zero_le hw.1
        have hW := nworth_p (s[k].toNat : Int) (by omega) (by omega) hx
        rw [rdL_at k1, hd'] at hr
        rw [hd'] at hW
        refine ⟨k, k1, rfl, ?_⟩
        refine .p rfl hW ?_
        refine cnd_split (fun h3 => ?_) (fun h3 => ?_)
        · have h3 := of_decide_eq_true h3
          rw [if_pos (.inl h3)] at hr
          exact (by rw [← hr]; rfl)
        · have h3 := of_decide_eq_false h3
          intro c hc
          rw [IntWalk.i64_in _ (by omega)] at hc
          subst hc
          refine ⟨by omega, ?_⟩
          have e1 : ((most : Int) - (d : Int)).tdiv (B : Int) = ((most : Int) - (d : Int)) / (B : Int) := Int.tdiv_eq_ediv_of_nonneg (by omega)
          have e2 : ((most : Int) - (d : Int)) / (B : Int) = (((most - d) / B : Nat) : Int) := by rw [Int.natCast_ediv]; congr 1; omega
          have e3 : (most - d) / B ≤ most - d := Nat.div_le_self _ _
          have e4 : (most - d) / B * B ≤ most - d := Nat.div_mul_le_self _ _
          rw [e1, e2]
          rw [e2] at hr
          clear e1 e2
          generalize (most - d) / B = x at *
          intro c hc
          rw [IntWalk.i64_in _ (by omega)] at hc
          subst hc
          refine cnd_split (fun h4 => ?_) (fun h4 => ?_)
          · have h4 := of_decide_eq_true h4
            rw [if_pos (.inr h4)] at hr
            exact (by rw [← hr]; rfl)
          · have h4 := of_decide_eq_false h4
            rw [if_neg (fun h => h.elim h3 h4)] at hr
            have h5 : n * B ≤ most - d := by
              have : n ≤ x := by omega
              exact Nat.le_trans (Nat.mul_le_mul_right B this) e4
            have hmul : (n : Int) * (B : Int) = ((n * B : Nat) : Int) := (Int.natCast_mul n B).symm
            rw [hmul] at hr
            intro c hc
            rw [hmul, IntWalk.i64_in _ (by omega)] at hc
            subst hc
            intro c hc
            rw [IntWalk.i64_in _ (by omega)] at hc
            obtain rfl : c = ((n * B + d : Nat) : Int) := by omega
            intro c hc
            rw [IntWalk.i64_in _ (by omega)] at hc
            obtain rfl : c = ((k + 1 : Nat) : Int) := by omega
            exact ⟨g - 1, by omega, k + 1, _, by omega, rfl, by omega, by rw [← hr]; congr 1⟩
      · have hd := of_decide_eq_false hd
        have : s.data.toList.drop k = [] := List.drop_of_length_le (by rw [blen]; omega)
        rw [this] at hr
        exact (by rw [← hr]; rfl)
theorem isDigit_f : ByteF 115 digI := fun n _ _ => isDigit_p n
theorem digI_hex (n : Int) (h : digI n = true) : hexI n = true := by unfold hexI; rw [h]; rfl
/-- program and document read alike -/
theorem readQ_G (s : ByteArray) (most : Nat) : readQ digI 10 s most = readG 10 s most := by
  have hD : ∀ n : Nat, n < 256 → isD 10 (n : Int) = digI (n : Int) ∧ (digI (n : Int) = true → 0 ≤ worthI (n : Int)) := by decide +kernel
  have e : allI (isD 10) s = allI digI s := by
    unfold allI
    congr 1
    funext b
    exact (hD b.toNat b.toNat_lt).1
  unfold readG readQ
  rw [e]
  by_cases h : s.size = 0 ∨ allI digI s = false
  · rw [if_pos h, if_pos h]
  · rw [if_neg h, if_neg h]
    have ha : allI digI s = true := by
      cases hx : allI digI s
      · exact absurd (.inr hx) h
      · rfl
    exact rdL_val 10 most (by decide) s.data.toList 0 (fun b hb => (hD b.toNat b.toNat_lt).2 (List.all_eq_true.1 ha b hb)) (by omega)
theorem decimal_p (s : ByteArray) (hs : s.size < maxLen) : APure Tryz.prog 116 [.s s, .i mostB] (.tup [.i (readG 10 s mostB).1, .i (readG 10 s mostB).2]) [] := by
  have h := nread_p isDigit_f digI_hex 10 (by omega) (by omega) s hs mostB (by decide)
  rw [readQ_G] at h
  refine APure.of rfl (ACalls.of_vc T_ok mixed Tryz.func116 rfl Tryz.call116 ?_)
  refine .p rfl h ?_
  rfl
end Go.Proofs.YthnmbfiandpedaaGreatDoor
/- Small numbers in texts. No statement of its own. -/
set_option linter.unusedSimpArgs false
set_option linter.unusedVariables false
set_option maxRecDepth 100000
namespace Go.Proofs.YthnmbfiandpedaaGreatDoor
open Go.RowKit
def nuT (n : Int) : ByteArray := ⟨(Lib.itoa n).toArray⟩
theorem nuFormat_p (n : Int) (h : -9223372036854775808 ≤ n ∧ n ≤ 9223372036854775807) : APure Tryz.prog 102 [.i n, .i 10] (.s (nuT n)) [] := by
  refine APure.of_lits #[.int .i64 n, .int .i64 10] (.inl rfl) rfl Tryz.call102 fun w hw => (Tryz.strconv_FormatInt_10 n h.1 h.2 w hw.2.1).mono ?_
  rintro e w' ⟨rfl, k, os, rfl⟩
  exact ⟨rfl, Lib.below_grow _ _ (Nat.le_refl _) _ _⟩
theorem nuText_p (n : Int) (h : -9223372036854775808 ≤ n ∧ n ≤ 9223372036854775807) (h0 : 0 ≤ n) : APure Tryz.prog 34 [.i n] (.s (nuT n)) [] := by
  have hp : APure Tryz.prog 58 [.i n, .i 10] (.s (nuT n)) [] := by
    refine APure.of rfl (ACalls.of_vc T_ok mixed Tryz.func58 rfl Tryz.call58 ?_)
    refine cnd_split (fun hd => ?_) (fun _ => ?_)
    · exact absurd (of_decide_eq_true hd) (by omega)
    refine .p rfl (nuFormat_p n h) ?_
    exact rfl
  refine APure.of rfl (ACalls.of_vc T_ok mixed Tryz.func34 rfl Tryz.call34 ?_)
  refine .p rfl hp ?_
  exact rfl
theorem nuDec_p (s : ByteArray) (hs : s.size < maxLen) (m : Nat) (hm : m ≤ 1048576) : APure Tryz.prog 116 [.s s, .i m] (.tup [.i (readG 10 s m).1, .i (readG 10 s m).2]) [] := by
  have h := nread_p isDigit_f digI_hex 10 (by omega) (by omega) s hs m (by omega)
  rw [readQ_G] at h
  refine APure.of rfl (ACalls.of_vc T_ok mixed Tryz.func116 rfl Tryz.call116 ?_)
  refine .p rfl h ?_
  rfl
theorem readG_in (s : ByteArray) (m : Nat) (h : (readG 10 s m).2 = 0) : 0 ≤ (readG 10 s m).1 ∧ (readG 10 s m).1 ≤ m := by
  revert h
  unfold readG
  split
  · intro h; cases h
  split
  · intro h; cases h
  · intro _
    dsimp only
    omega
def smallB (s : ByteArray) (m : Nat) : Bool := match decide ((readG 10 s m).2 = 0) with
  | true => decide (nuT (readG 10 s m).1 = s)
  | false => false
theorem small_p (s : ByteArray) (hs : s.size < maxLen) (m : Nat) (hm : m ≤ 1048576) : APure Tryz.prog 153 [.s s, .i m] (.b (smallB s m)) [] := by
  have hq := readG_in s m
  have hd := nuDec_p s hs m hm
  unfold smallB
  generalize readG 10 s m = q at hq hd ⊢
  by_cases h0 : q.2 = 0
  · obtain ⟨q1, q2⟩ := hq h0
    rw [decide_eq_true h0]
    dsimp only
    refine APure.of rfl (ACalls.of_vc T_ok mixed Tryz.func153 rfl Tryz.call153 ?_)
    refine .p rfl hd ?_
    refine cnd_split (fun h => ?_) (fun h => by rw [h0] at h; cases h)
    refine .p rfl (nuText_p q.1 (by omega) q1) ?_
    intro t ht
    have e : t = decide (nuT q.1 = s) := by rw [Bool.eq_iff_iff, ht, decide_eq_true_iff]
    exact congrArg AV.b e
  · rw [decide_eq_false h0]
    dsimp only
    refine APure.of rfl (ACalls.of_vc T_ok mixed Tryz.func153 rfl Tryz.call153 ?_)
    refine .p rfl hd ?_
    refine cnd_split (fun h => absurd (eq_of_beq h) h0) (fun h => ?_)
    exact rfl
end Go.Proofs.YthnmbfiandpedaaGreatDoor
/- An iterator over the pieces of a text (strings.SplitSeq). No statement of its own. -/
set_option linter.unusedSimpArgs false
set_option linter.unusedVariables false
set_option linter.unusedSimpArgs false
set_option linter.unusedVariables false
namespace Go.Proofs.YthnmbfiandpedaaGreatDoor
open Go.RowKit Go.Shelf
attribute [local go_sem] Oper.semAt_some

theorem splG_miss {s sep : ByteArray} (h : Lib.indexB s sep = -1) : splG s sep = [s] := Lib.splitB_miss _ _ _ _ h
theorem splG_hit {s sep : ByteArray} {i : Nat} (h1 : 1 ≤ sep.size) (h : Lib.indexB s sep = i) : splG s sep = s.extract 0 i :: splG (s.extract (i + sep.size) s.size) sep := by
  unfold splG
  rw [Lib.countB_hit s sep i h1 h, Nat.add_comm 1, Lib.splitB_hit _ _ _ _ i h]
  rfl
theorem cell_far {w : World} (p a : Addr) (v : Value) (h : p.block ≠ a.block) : (w.setCell p v).cell? a = w.cell? a :=
  World.cell?_setCell_other w p a v (fun e => h (by rw [e]))
/-- some blocks stay as they are -/
def KeepAt (ks : List Nat) (A B : World) : Prop := ∀ k ∈ ks, B.heap[k]? = A.heap[k]?
theorem KeepAt.cell {ks : List Nat} {A B : World} (h : KeepAt ks A B) {k : Nat} (hk : k ∈ ks) : B.cell? ⟨k, 0, none⟩ = A.cell? ⟨k, 0, none⟩ ∧ B.frozen? ⟨k, 0, none⟩ = A.frozen? ⟨k, 0, none⟩ := by
  constructor <;> simp [World.cell?, World.frozen?, h k hk]
noncomputable def restO (B : Nat) (W : World) : Nat := match W.cell? ⟨B, 0, none⟩ with | some (.string t) => t.size | _ => 0
set_option maxRecDepth 100000 in
set_option maxHeartbeats 2000000 in
theorem sseq_in (n : Nat) (l Bp Bs Bv : Nat) (s sep : ByteArray) (hs : s.size ≤ 4000000000) (h1 : 1 ≤ sep.size) (d1 : Bp ≠ Bs) (d2 : Bv ≠ Bs) (d3 : 0 ≠ Bs)
    (J Jx : List ByteArray → World → Prop) (sJ : StaysAt Bs J)
    (hY : ∀ pre x W, J pre W → pre ++ [x] <+: splG s sep → YieldAt Fence.wide (n - 1) Tryz.prog l #[.string x] W fun e W' =>
      (e = .returned (.bool true) ∧ J (pre ++ [x]) W' ∧ KeepAt [0, Bp, Bs, Bv] W W') ∨ (e = .returned (.bool false) ∧ Jx (pre ++ [x]) W'))
    (W : World) (m : Int) (hm : W.cell? ⟨0, 0, none⟩ = some (.int .i64 m)) (hp : W.cell? ⟨Bp, 0, none⟩ = some (.string sep)) (hc : W.cell? ⟨Bs, 0, none⟩ = some (.string s)) (hf : W.frozen? ⟨Bs, 0, none⟩ = false) (hv : W.cell? ⟨Bv, 0, none⟩ = some (.int .i64 0)) (h0 : J [] W) :
    CallsIn Fence.wide n Tryz.prog 326 #[.func (.yield l) #[] #[], .pointer (some ⟨Bp, 0, none⟩), .pointer (some ⟨Bs, 0, none⟩), .pointer (some ⟨Bv, 0, none⟩)] W fun e W' => (∃ v, e = .returned v) ∧
      ((∃ ys, ys = splG s sep ∧ J ys W') ∨ (∃ pre, pre <+: splG s sep ∧ Jx pre W')) := by
  refine callsIn_of_wp Tryz.func326 rfl trivial ?_ rfl
  simp only [Tryz.ntmps326, List.size_toArray, List.length_cons, List.length_nil, Nat.reduceAdd, Nat.reduceSub, Array.replicate_succ, Array.replicate_zero, List.push_toArray, List.append_toArray, List.nil_append, List.cons_append]
  gi_wp2
  rename_i h9 K hK
  rw [h9]
  gi_loopw [7] (fun _ wr => ∃ (pre : List ByteArray) (t : ByteArray), wr.cell? ⟨Bs, 0, none⟩ = some (.string t) ∧ wr.frozen? ⟨Bs, 0, none⟩ = false ∧ wr.cell? ⟨0, 0, none⟩ = some (.int .i64 m) ∧ wr.cell? ⟨Bp, 0, none⟩ = some (.string sep) ∧ wr.cell? ⟨Bv, 0, none⟩ = some (.int .i64 0) ∧ t.size ≤ s.size ∧ pre ++ splG t sep = splG s sep ∧ J pre wr)
    (fun _ wr => restO Bs wr)
  case atStart =>
    exact ⟨[], s, hc, hf, hm, hp, hv, Nat.le_refl _, rfl, h0⟩
  case round =>
    obtain ⟨pre, t, rc, rf, rm, rp, rv, rs, re, rj⟩ := hrel
    rcases Lib.indexB_cases t sep with hix | ⟨i, hix, hroom⟩
    · obtain ⟨fn, tmps, assign, body, hy, hR⟩ := hY pre t _ rj (by rw [← re, splG_miss hix]; exact List.prefix_refl _)
      gi_wp2_with (refine ⟨trivial, (fun h => by cases h), ?_⟩; refine CallsIn.mono (callsIn_wide.2 (Tryz.strings_Index t sep m _ (by omega) rm)) ?_; rintro e w' ⟨rfl, rfl⟩; rw [show Lib.index t.data.toList sep.data.toList = _ from hix])
      refine ⟨(fun h => by cases h), hR.mono ?_⟩
      rintro e W3 (⟨rfl, hJ3, _⟩ | ⟨rfl, hJx3⟩)
      · gi_wp2
        go_end0
        exact ⟨⟨_, rfl⟩, .inl ⟨_, by rw [← re, splG_miss hix], hJ3⟩⟩
      · gi_wp2
        go_end0
        exact ⟨⟨_, rfl⟩, .inr ⟨_, by rw [← re, splG_miss hix]; exact List.prefix_refl _, hJx3⟩⟩
    · obtain ⟨fn, tmps, assign, body, hy, hR⟩ := hY pre (t.extract 0 i) _ rj ⟨splG (t.extract (i + sep.size) t.size) sep, by rw [← re, splG_hit h1 hix]; simp⟩
      gi_wp2_with (refine ⟨trivial, (fun h => by cases h), ?_⟩; refine CallsIn.mono (callsIn_wide.2 (Tryz.strings_Index t sep m _ (by omega) rm)) ?_; rintro e w' ⟨rfl, rfl⟩; rw [show Lib.index t.data.toList sep.data.toList = _ from hix])
      refine ⟨(fun h => by cases h), hR.mono ?_⟩
      rintro e W3 (⟨rfl, hJ3, hk3⟩ | ⟨rfl, hJx3⟩)
      · have kc := (hk3.cell (k := Bs) (by simp)).1.trans rc
        have kf := (hk3.cell (k := Bs) (by simp)).2.trans rf
        have km := (hk3.cell (k := 0) (by simp)).1.trans rm
        have kp := (hk3.cell (k := Bp) (by simp)).1.trans rp
        have kv := (hk3.cell (k := Bv) (by simp)).1.trans rv
        gi_wp2
        go_roundw
        case rel =>
          have e2 : (t.extract (i + sep.size) t.size).size = t.size - (i + sep.size) := by rw [ByteArray.size_extract]; omega
          refine ⟨pre ++ [t.extract 0 i], t.extract (i + sep.size) t.size, World.cell?_setCell_same' _ _ _ (by rw [kc]; rfl), (World.frozen?_setCell ..).trans kf, ?_, ?_, ?_, by omega, by rw [← re, splG_hit h1 hix]; simp, sJ _ _ _ hJ3⟩
          · exact (cell_far _ _ _ (by show Bs ≠ 0; omega)).trans km
          · exact (cell_far _ _ _ (by show Bs ≠ Bp; omega)).trans kp
          · exact (cell_far _ _ _ (by show Bs ≠ Bv; omega)).trans kv
        case measure =>
          unfold restO
          rw [World.cell?_setCell_same' _ _ _ (by rw [kc]; rfl), rc]
          dsimp only
          rw [ByteArray.size_extract]
          omega
      · gi_wp2
        refine bodyPost_ret (results_none rfl _ _ _) rfl ?_
        exact ⟨⟨_, rfl⟩, .inr ⟨pre ++ [t.extract 0 i], ⟨splG (t.extract (i + sep.size) t.size) sep, by rw [← re, splG_hit h1 hix]; simp⟩, hJx3⟩⟩
end Go.Proofs.YthnmbfiandpedaaGreatDoor
/- Four small numbers with dots between (hostport.Four). No statement of its own. -/
set_option linter.unusedSimpArgs false
set_option linter.unusedVariables false
set_option linter.unusedSimpArgs false
set_option linter.unusedVariables false
namespace Go.Proofs.YthnmbfiandpedaaGreatDoor
open Go.RowKit Go.Shelf
attribute [local go_sem] Oper.semAt_some

theorem APure.of_litsB {P : Program} {f : FuncId} (vs : Array Value) {v : Value} (hd : (AV.lit v).datR = true) (hcall : ∀ zs w, (callFunc f zs).run P w = .ok (.enter f zs) w)
    (h : ∀ w, (∀ w', Below w.heap.size w w' → LaidW w') → Calls P f vs w fun e w' => e = .returned v ∧ Below w.heap.size w w') : APure P f (vs.toList.map AV.lit) (.lit v) [] := by
  refine ⟨AV.res_of_datR hd, hcall, fun J w zs hw hl ha => ?_⟩
  have has : zs = vs := by
    apply Array.ext
    · simpa using hl.symm
    · intro i h1 h2
      have := ha i (.lit vs[i]) zs[i] (by simp [h2]) (by simp [h1])
      exact this.of_lit
  subst has
  refine (h w hw).mono ?_
  rintro e w' ⟨rfl, hb⟩
  exact ⟨v, fun _ => ⟨0, 0, 0⟩, rfl, ⟨⟨Nat.le_refl _, hw⟩, hb, fun p cs h => by simp at h, fun p q h => by simp at h, fun t e h => by simp at h⟩, .lit _⟩
theorem small_c (x : ByteArray) (hs : x.size < maxLen) (w : World) (hw : ∀ w', Below w.heap.size w w' → LaidW w') : Calls Tryz.prog 153 #[.string x, .int .i64 255] w fun e w' => e = .returned (.bool (smallB x 255)) ∧ Below w.heap.size w w' := by
  refine ((small_p x hs 255 (by decide)).2.2 (fun _ _ => False) w #[.string x, .int .i64 255] hw rfl (fun j a v h1 h2 => ?_)).mono ?_
  · match j with
    | 0 => cases h1; cases h2; exact .lit _
    | 1 => cases h1; cases h2; exact .lit _
    | j + 2 => simp at h1
  · rintro e w' ⟨v, σ', rfl, ho, ha⟩
    exact ⟨by rw [ha.of_lit], ho.below⟩
set_option maxHeartbeats 1000000 in
theorem sseqMk_in (n : Nat) (s sep : ByteArray) (w : World) : CallsIn Fence.wide n Tryz.prog 251 #[.string s, .string sep] w fun e w' =>
    e = .returned (.func (.func 326) #[] #[.pointer (some ⟨w.heap.size + 1, 0, none⟩), .pointer (some ⟨w.heap.size, 0, none⟩), .pointer (some ⟨w.heap.size + 2, 0, none⟩)]) ∧
      w' = ((w.alloc (.cells #[.string s] 9)).alloc (.cells #[.string sep] 9)).alloc (.cells #[.int .i64 0] 3) := by
  have h2 : CallsIn Fence.wide (n - 1) Tryz.prog 292 #[.string s, .string sep, .int .i64 0] w fun e w' =>
    e = .returned (.func (.func 326) #[] #[.pointer (some ⟨w.heap.size + 1, 0, none⟩), .pointer (some ⟨w.heap.size, 0, none⟩), .pointer (some ⟨w.heap.size + 2, 0, none⟩)]) ∧
      w' = ((w.alloc (.cells #[.string s] 9)).alloc (.cells #[.string sep] 9)).alloc (.cells #[.int .i64 0] 3) := by
    refine callsIn_of_wp Tryz.func292 rfl trivial ?_ rfl
    simp only [Tryz.ntmps292, List.size_toArray, List.length_cons, List.length_nil, Nat.reduceAdd, Nat.reduceSub, Array.replicate_succ, Array.replicate_zero, List.push_toArray, List.append_toArray, List.nil_append, List.cons_append]
    gi_wp2
    go_ret
    exact ⟨by simp, rfl⟩
  refine callsIn_of_wp Tryz.func251 rfl trivial ?_ rfl
  simp only [Tryz.ntmps251, List.size_toArray, List.length_cons, List.length_nil, Nat.reduceAdd, Nat.reduceSub, Array.replicate_succ, Array.replicate_zero, List.push_toArray, List.append_toArray, List.nil_append, List.cons_append]
  gi_wp2_with (refine ⟨trivial, (fun h => by cases h), ?_⟩; refine CallsIn.mono h2 ?_; rintro e w' ⟨rfl, rfl⟩)
  go_ret
  exact ⟨rfl, rfl⟩
theorem cellB {W : World} {B : Nat} {v : Value} {t : TypeId} (h : W.heap[B]? = some (.cells #[v] t (0, 0))) : W.cell? ⟨B, 0, none⟩ = some v ∧ W.frozen? ⟨B, 0, none⟩ = false := by
  constructor <;> simp [World.cell?, World.frozen?, h]
theorem cellN (W : World) (v : Value) (t : TypeId) : (W.alloc (.cells #[v] t)).cell? ⟨W.heap.size, 0, none⟩ = some v ∧ (W.alloc (.cells #[v] t)).frozen? ⟨W.heap.size, 0, none⟩ = false :=
  cellB (World.alloc_heap_new W (.cells #[v] t))
/-- a cell that may be written -/
def Cl1 (W : World) (k : Nat) (v : Value) : Prop := W.cell? ⟨k, 0, none⟩ = some v ∧ W.frozen? ⟨k, 0, none⟩ = false
theorem Cl1.al {W : World} {k : Nat} {v : Value} (o : Obj) (h : Cl1 W k v) : Cl1 (W.alloc o) k v :=
  ⟨cell_kept h.1 (World.grownBy_alloc W o none) (fun r e => by cases e), (frozen_kept h.1 (World.grownBy_alloc W o none) (fun r e => by cases e)).trans h.2⟩
theorem Cl1.below {B : Nat} {W W' : World} {k : Nat} {v : Value} (hb : Below B W W') (hk : k < B) (h : Cl1 W k v) : Cl1 W' k v := by
  have := hb.block k hk
  unfold Cl1 at h ⊢
  simpa [World.cell?, World.frozen?, this] using h
theorem Cl1.kept {W W' : World} {row : Option Nat} {k : Nat} {v : Value} (h : Cl1 W k v) (hg : W.grownBy W' row) (hr : ∀ r, row = some r → ∃ o : Obj, W.heap[r]? = some o ∧ o.isCells = false) : Cl1 W' k v :=
  ⟨cell_kept h.1 hg hr, (frozen_kept h.1 hg hr).trans h.2⟩
theorem Cl1.far {W : World} {k C : Nat} {v u : Value} (h : Cl1 W k v) (hne : C ≠ k) : Cl1 (W.setCell ⟨C, 0, none⟩ u) k v :=
  ⟨(cell_far _ _ _ hne).trans h.1, (World.frozen?_setCell ..).trans h.2⟩
theorem Cl1.same {W : World} {k : Nat} {v u : Value} (h : Cl1 W k v) : Cl1 (W.setCell ⟨k, 0, none⟩ u) k u :=
  ⟨World.cell?_setCell_same' _ _ _ (by rw [h.1]; rfl), (World.frozen?_setCell ..).trans h.2⟩
theorem Cl1.lt {W : World} {k : Nat} {v : Value} (h : Cl1 W k v) : k < W.heap.size := World.block_lt_of_cell? W ⟨k, 0, none⟩ h.1
theorem keeps_below {W W' : World} (h : Below W.heap.size W W') : KeepsOthers W W' := ⟨h.size, fun k o hk _ => (h.block k (Array.getElem?_eq_some_iff.1 hk).1).trans hk⟩
def dotB : ByteArray := ⟨#[46]⟩
def fourB (s : ByteArray) : Bool := match (splG s dotB).all (fun x => smallB x 255) with
  | true => decide ((splG s dotB).length = 4)
  | false => false
theorem splG_size {sep : ByteArray} (h1 : 1 ≤ sep.size) : ∀ (k : Nat) (s : ByteArray), s.size ≤ k → ∀ x ∈ splG s sep, x.size ≤ k
  | 0, s, hk, x, hx => by
    rcases Lib.indexB_cases s sep with h | ⟨i, h, hr⟩
    · rw [splG_miss h, List.mem_singleton] at hx; subst hx; exact hk
    · omega
  | k + 1, s, hk, x, hx => by
    rcases Lib.indexB_cases s sep with h | ⟨i, h, hr⟩
    · rw [splG_miss h, List.mem_singleton] at hx; subst hx; exact hk
    · rw [splG_hit h1 h] at hx
      rcases List.mem_cons.1 hx with rfl | hx
      · rw [ByteArray.size_extract]; omega
      · have := splG_size h1 k _ (by rw [ByteArray.size_extract]; omega) x hx
        omega
set_option maxRecDepth 100000 in
set_option maxHeartbeats 2000000 in
theorem four_c (s : ByteArray) (hs : s.size ≤ 4000000000) (w : World) (hw : ∀ w', Below w.heap.size w w' → LaidW w') : Calls Tryz.prog 206 #[.string s] w fun e w' => e = .returned (.bool (fourB s)) ∧ Below w.heap.size w w' := by
  refine (callsIn_wide (n := 5)).1 (callsIn_of_wp_marks Tryz.func206 rfl trivial ?_ rfl)
  simp only [Tryz.ntmps206, List.size_toArray, List.length_cons, List.length_nil, Nat.reduceAdd, Nat.reduceSub, Array.replicate_succ, Array.replicate_zero, List.push_toArray, List.append_toArray, List.nil_append, List.cons_append]
  gi_wp2_with (refine ⟨trivial, ?_⟩; refine CallsIn.mono (sseqMk_in _ _ _ _) ?_; rintro e w' ⟨rfl, rfl⟩)
  have c0 := cellN w (.bool false) 4
  have c1 := cellN (w.alloc (.cells #[.bool false] 4)) (.int .i64 0) 3
  have c2 := cellN ((w.alloc (.cells #[.bool false] 4)).alloc (.cells #[.int .i64 0] 3)) (.string s) 9
  have c3 := cellN (((w.alloc (.cells #[.bool false] 4)).alloc (.cells #[.int .i64 0] 3)).alloc (.cells #[.string s] 9)) (.string ⟨#[46]⟩) 9
  have c4 := cellN ((((w.alloc (.cells #[.bool false] 4)).alloc (.cells #[.int .i64 0] 3)).alloc (.cells #[.string s] 9)).alloc (.cells #[.string ⟨#[46]⟩] 9)) (.int .i64 0) 3
  simp only [World.size_alloc] at c1 c2 c3 c4
  have hB0 : Below w.heap.size w (((((w.alloc (.cells #[.bool false] 4)).alloc (.cells #[.int .i64 0] 3)).alloc (.cells #[.string s] 9)).alloc (.cells #[.string ⟨#[46]⟩] 9)).alloc (.cells #[.int .i64 0] 3)) := (((((Below.refl _ w).alloc (Nat.le_refl _) _).alloc (by simp) _).alloc (by simp; omega) _).alloc (by simp; omega) _).alloc (by simp; omega) _
  have hmx : maxLen = 9223372036854775807 := rfl
  have h1 : 1 ≤ dotB.size := by decide
  have hlen : (splG s dotB).length ≤ s.size + 1 := splG_len s dotB h1
  obtain ⟨m, hm⟩ := (hw _ hB0).max
  replace c0 : Cl1 _ _ _ := (((Cl1.al (.cells #[.int .i64 0] 3) c0).al (.cells #[.string s] 9)).al (.cells #[.string ⟨#[46]⟩] 9)).al (.cells #[.int .i64 0] 3)
  replace c1 : Cl1 _ _ _ := ((Cl1.al (.cells #[.string s] 9) c1).al (.cells #[.string ⟨#[46]⟩] 9)).al (.cells #[.int .i64 0] 3)
  replace c2 : Cl1 _ _ _ := (Cl1.al (.cells #[.string ⟨#[46]⟩] 9) c2).al (.cells #[.int .i64 0] 3)
  replace c3 : Cl1 _ _ _ := Cl1.al (.cells #[.int .i64 0] 3) c3
  replace c4 : Cl1 _ _ _ := c4
  have hsz : (((((w.alloc (.cells #[.bool false] 4)).alloc (.cells #[.int .i64 0] 3)).alloc (.cells #[.string s] 9)).alloc (.cells #[.string ⟨#[46]⟩] 9)).alloc (.cells #[.int .i64 0] 3)).heap.size = w.heap.size + 5 := by simp
  generalize (((((w.alloc (.cells #[.bool false] 4)).alloc (.cells #[.int .i64 0] 3)).alloc (.cells #[.string s] 9)).alloc (.cells #[.string ⟨#[46]⟩] 9)).alloc (.cells #[.int .i64 0] 3)) = W0 at *
  have hm' : ∀ W, Below W0.heap.size W0 W → W.cell? ⟨0, 0, none⟩ = some (.int .i64 m) := fun W hW => by
    have h0 : 0 < W0.heap.size := by omega
    have := hW.block 0 h0
    simpa [World.cell?, this] using hm
  refine range_cell (F := Fence.wide) (n := 5) rfl (by decide) (gf := 326) (lb := #[.pointer (some ⟨w.heap.size + 1 + 1 + 1, 0, none⟩), .pointer (some ⟨w.heap.size + 1 + 1, 0, none⟩), .pointer (some ⟨w.heap.size + 1 + 1 + 2, 0, none⟩)]) rfl trivial (enters_of Tryz.func326 (by kernel_rfl) rfl)
    (encs := fun x : ByteArray => #[Value.string x]) (Kp := KeepAt [0, w.heap.size + 1 + 1 + 1, w.heap.size + 1 + 1, w.heap.size + 1 + 1 + 2]) (S := fun xs => xs = splG s dotB) (Sp := fun pre => pre <+: splG s dotB) (V := fun l => l <+: splG s dotB) (C := w.heap.size + 1 + 1) (by omega)
    (fun l J Jx W hW hJ hJx hY hj => sseq_in _ l _ _ _ s dotB hs h1 (by omega) (by omega) (by omega) J Jx hJ.2 hY W m (hm' W hW) (c3.below hW (by omega)).1 (c2.below hW (by omega)).1 (c2.below hW (by omega)).2 (c4.below hW (by omega)).1 hj)
    (fun h k x hx => (k x hx).trans (h x hx))
    (fun W l o o' hl ho _ _ x hx => World.putObj_heap_other (by simp at hx; omega)) (fun _ => rfl)
    (fun pre W => ((∀ x ∈ pre, smallB x 255 = true) ∧ W0.heap.size ≤ W.heap.size) ∧ (Cl1 W w.heap.size (.bool false) ∧ Cl1 W (w.heap.size + 1) (.int .i64 pre.length)) ∧ Below w.heap.size w W)
    (fun c pre W => (c = .ret ∧ ∃ x ∈ pre, smallB x 255 = false) ∧ Cl1 W w.heap.size (.bool false) ∧ Below w.heap.size w W)
    ?oI ?oX ?sI ?sX ?h0 (fun x => { tmps := #[.string s, undef, .pointer (some ⟨w.heap.size, 0, none⟩), .pointer (some ⟨w.heap.size + 1, 0, none⟩), .string x, .string s, .func (.func 326) #[] #[.pointer (some ⟨w.heap.size + 1 + 1 + 1, 0, none⟩), .pointer (some ⟨w.heap.size + 1 + 1, 0, none⟩), .pointer (some ⟨w.heap.size + 1 + 1 + 2, 0, none⟩)], .string x, undef, undef, undef, undef, undef, undef, undef], defers := [] }) ?assign ?body ?done ?stop
  case oI =>
    intro pre A B row hs hg hr
    have hr' : ∀ r, row = some r → ∃ o : Obj, A.heap[r]? = some o ∧ o.isCells = false := fun r e => (hr r e).2
    exact ⟨⟨hs.1.1, Nat.le_trans hs.1.2 hg.size⟩, ⟨hs.2.1.1.kept hg hr', hs.2.1.2.kept hg hr'⟩, ownFrom_below (β := Unit) (Nat.le_refl _) (by omega) () A B row hs.2.2 hg hr⟩
  case oX =>
    intro c pre A B row hs hg hr
    have hr' : ∀ r, row = some r → ∃ o : Obj, A.heap[r]? = some o ∧ o.isCells = false := fun r e => (hr r e).2
    exact ⟨hs.1, hs.2.1.kept hg hr', ownFrom_below (β := Unit) (Nat.le_refl _) (by omega) () A B row hs.2.2 hg hr⟩
  case sI =>
    intro pre W v hs
    exact ⟨⟨hs.1.1, Nat.le_trans hs.1.2 (KeepsOthers.setCell W _ v).size⟩, ⟨hs.2.1.1.far (by omega), hs.2.1.2.far (by omega)⟩, hs.2.2.setCell (p := ⟨w.heap.size + 1 + 1, 0, none⟩) (by show w.heap.size ≤ w.heap.size + 1 + 1; omega) _⟩
  case sX =>
    intro c pre W v hs
    exact ⟨hs.1, hs.2.1.far (by omega), hs.2.2.setCell (p := ⟨w.heap.size + 1 + 1, 0, none⟩) (by show w.heap.size ≤ w.heap.size + 1 + 1; omega) _⟩
  case h0 => exact ⟨⟨by simp, Nat.le_refl _⟩, ⟨c0, c1⟩, hB0⟩
  case assign =>
    intro l x W K hK
    gi_wp2
    exact hK
  case body =>
    rintro l pre x W ⟨⟨hp, hl⟩, ⟨d0, d1⟩, hB⟩ hV
    have hx : x.size < maxLen := by
      have := splG_size h1 s.size s (Nat.le_refl _) x (hV.subset (by simp))
      omega
    have hlp := hV.length_le
    simp only [List.length_append, List.length_cons, List.length_nil] at hlp
    have hwW : ∀ w', Below W.heap.size W w' → LaidW w' := fun w' h => hw w' (hB.trans (h.mono hB.size))
    cases hsm : smallB x 255 with
    | false =>
      gi_wp2_with (refine ⟨trivial, ?_⟩; refine CallsIn.mono (callsIn_wide.2 (small_c x hx W hwW)) ?_; rintro e w' ⟨rfl, hb⟩; rw [hsm]; have e0 := (d0.below hb d0.lt).1; have f0 := (d0.below hb d0.lt).2)
      exact ⟨(keeps_below hb).trans (KeepsOthers.setCell _ _ _), ⟨rfl, x, by simp, hsm⟩, (d0.below hb d0.lt).same, (hB.trans (hb.mono hB.size)).setCell (p := ⟨w.heap.size, 0, none⟩) (Nat.le_refl _) _⟩
    | true =>
      gi_wp2_with (refine ⟨trivial, ?_⟩; refine CallsIn.mono (callsIn_wide.2 (small_c x hx W hwW)) ?_; rintro e w' ⟨rfl, hb⟩; rw [hsm]; have e1 := (d1.below hb d1.lt).1; have f1 := (d1.below hb d1.lt).2)
      have hsz1 := hb.size
      refine ⟨(keeps_below hb).trans (KeepsOthers.setCell _ _ _), fun k hk => ?_, ⟨fun y hy => ?_, Nat.le_trans (Nat.le_trans hl hsz1) (KeepsOthers.setCell w' _ _).size⟩, ⟨(d0.below hb d0.lt).far (by omega), ?_⟩, (hB.trans (hb.mono hB.size)).setCell (p := ⟨w.heap.size + 1, 0, none⟩) (by show w.heap.size ≤ w.heap.size + 1; omega) _⟩
      · have hk2 : k ≠ w.heap.size + 1 ∧ k < W.heap.size := by
          have h0 : 0 < w.heap.size := by
            have := hm' W0 (.refl _ _)
            have h9 := (hw w (.refl _ _)).max
            obtain ⟨m9, h9⟩ := h9
            exact World.block_lt_of_cell? w ⟨0, 0, none⟩ h9
          simp at hk
          omega
        exact (Below.heap_setCell w' ⟨w.heap.size + 1, 0, none⟩ _ k hk2.1).trans (hb.block k hk2.2)
      · rcases List.mem_append.1 hy with hy | hy
        · exact hp y hy
        · rw [List.mem_singleton.1 hy]; exact hsm
      · have h9 := (d1.below hb d1.lt).same (u := .int .i64 (pre.length + 1))
        simpa using h9
  case done =>
    rintro D ys W hD rfl ⟨⟨hp, hl⟩, ⟨d0, d1⟩, hB⟩ hK
    have e0 := d0.1
    have f0 := d0.2
    have e1 := d1.1
    have hall : (splG s dotB).all (fun x => smallB x 255) = true := List.all_eq_true.2 hp
    gi_wp2
    have hK' := (KeepsOthers.setCell W ⟨w.heap.size, 0, none⟩ (.bool (((splG s dotB).length : Int) == 4))).same D _ hK rfl
    refine ⟨by simp, .inl ⟨_, _, rfl, run_takeDeferred hK', ?_⟩⟩
    have hc5 := cell_kept (World.cell?_setCell_same' W ⟨w.heap.size, 0, none⟩ (.bool (((splG s dotB).length : Int) == 4)) (by rw [e0]; rfl)) (grownBy_putObj' _ D (.deferred none)) (fun r e => by cases e; exact ⟨_, hK', rfl⟩)
    have e4 : (((splG s dotB).length : Int) == 4) = fourB s := by
      unfold fourB
      rw [hall, Bool.eq_iff_iff]
      simp
      omega
    refine ⟨.bool (((splG s dotB).length : Int) == 4), ?_, by rw [e4], (hB.setCell (p := ⟨w.heap.size, 0, none⟩) (Nat.le_refl _) _).trans (belowK_b (w := w) (Nat.le_refl _) _ D _ _ (by omega) hK' rfl rfl)⟩
    simp [results, Tryz.f206, go_sem, hc5]
  case stop =>
    rintro D c pre W hD hpre ⟨⟨rfl, x, hx, hsm⟩, d0, hB⟩ hK
    have hall : (splG s dotB).all (fun x => smallB x 255) = false := by
      cases h : (splG s dotB).all (fun x => smallB x 255) with
      | false => rfl
      | true =>
        have := List.all_eq_true.1 h x (hpre.subset hx)
        rw [hsm] at this
        cases this
    gi_wp2
    refine ⟨by simp, .inl ⟨_, _, rfl, run_takeDeferred hK, ?_⟩⟩
    have hc5 := cell_kept d0.1 (grownBy_putObj' _ D (.deferred none)) (fun r e => by cases e; exact ⟨_, hK, rfl⟩)
    refine ⟨.bool false, ?_, by unfold fourB; rw [hall], hB.trans (belowK_b (w := w) (Nat.le_refl _) W D _ _ (by omega) hK rfl rfl)⟩
    simp [results, Tryz.f206, go_sem, hc5]
theorem four_p (s : ByteArray) (hs : s.size ≤ 4000000000) : APure Tryz.prog 206 [.s s] (.b (fourB s)) [] :=
  APure.of_litsB #[.string s] rfl Tryz.call206 fun w hw => four_c s hs w hw
end Go.Proofs.YthnmbfiandpedaaGreatDoor
/- Hooks of the runs, the rest. No statement of its own. -/
set_option linter.unusedSimpArgs false
set_option linter.unusedVariables false
set_option maxRecDepth 100000
namespace Go.Proofs.YthnmbfiandpedaaGreatDoor
open Go.RowKit
noncomputable def hkTrim (args : List AV) : Option AV := match args with
  | [.lit (.string s), .lit (.string t)] => match asciiL t with
    | true => match Nat.ble (lenE t.data.toList) 99 with
      | true => small8 s (.s (trimC s t))
      | false => none
    | false => none
  | _ => none
theorem hkTrim_ok : FhOk Tryz.prog 56 (.hook hkTrim) := by
  intro args r h
  unfold hkTrim at h
  split at h
  · split at h
    · rename_i ha
      split at h
      · rename_i e
        have e := Nat.le_of_ble_eq_true e
        rw [lenE_eq, size8] at e
        obtain ⟨h1, rfl⟩ := small8_of h
        have hmx : maxLen = 9223372036854775807 := rfl
        exact trim_p _ _ (by omega) (by omega) ha
      · cases h
    · cases h
  · cases h
noncomputable def hkText (args : List AV) : Option AV := match args with
  | [.lit (.int .i64 (.ofNat n))] => match Nat.ble n 9223372036854775807 with
    | true => some (.s (nuT (.ofNat n)))
    | false => none
  | _ => none
theorem hkText_ok : FhOk Tryz.prog 34 (.hook hkText) := by
  intro args r h
  unfold hkText at h
  split at h
  · rename_i n
    split at h
    · rename_i e
      have e := Nat.le_of_ble_eq_true e
      cases h
      have e2 : Int.ofNat n = (n : Int) := rfl
      exact nuText_p (Int.ofNat n) (by omega) (by omega)
    · cases h
  · cases h
noncomputable def hkFour (args : List AV) : Option AV := match args with
  | [.lit (.string s)] => small8 s (.b (fourB s))
  | _ => none
theorem hkFour_ok : FhOk Tryz.prog 206 (.hook hkFour) := by
  intro args r h
  unfold hkFour at h
  split at h
  · obtain ⟨h1, rfl⟩ := small8_of h
    exact four_p _ (by omega)
  · cases h
noncomputable def unS : List (List AV) → Option (List ByteArray)
  | [] => some []
  | e :: r => match e with
    | [.lit (.string s)] => match unS r with
      | some l => some (s :: l)
      | none => none
    | _ => none
theorem unS_eq : ∀ {es : List (List AV)} {l : List ByteArray}, unS es = some l → es = strL l
  | [], l, h => by cases h; rfl
  | e :: r, l, h => by
    unfold unS at h
    split at h
    · split at h
      · rename_i l' h1
        cases h
        rw [unS_eq h1]
        rfl
      · cases h
    · cases h
noncomputable def hkJoin (args : List AV) : Option AV := match args with
  | [.sl .no 1 es, .lit (.string sep)] => match unS es with
    | some l => match Nat.ble (lenE l) 1000000 with
      | true => small8 (joinC sep l) (.s (joinC sep l))
      | false => none
    | none => none
  | _ => none
theorem hkJoin_ok : FhOk Tryz.prog 59 (.hook hkJoin) := by
  intro args r h
  unfold hkJoin at h
  split at h
  · split at h
    · rename_i l hl
      split at h
      · rename_i e
        have e := Nat.le_of_ble_eq_true e
        rw [lenE_eq] at e
        obtain ⟨h1, rfl⟩ := small8_of h
        rw [unS_eq hl]
        exact sjoin_p _ _ (by omega) (by omega)
      · cases h
    · cases h
  · cases h
end Go.Proofs.YthnmbfiandpedaaGreatDoor
