/- Functions over abstract values: a call out of its body's condition; calls that see nothing but data. No statement of its own. -/
import Derived.Test.YtfhodppaelfcfaaDoorVs10
import Derived.Test.YtfhodppaelfcfaaDoorVm
namespace Go.Proofs.YtfhodppaelfcfaaDoor
open Go.RowKit

section
variable {base : Nat} {J : Nat → Nat → Prop} {w0 : World} {st : St} {μ : Nat → Nat} {σ : Nat → Tkt} {w w' : World} {P : Program} {T : Tab}

def resG (tmps : Array Value) : ResultVar → Sem Value
  | .tmp t => pure (tmps.getD t undef)
  | .cell a t => do loadVar t (← asAddr (tmps.getD a undef))
theorem results_eq (fn : Func) (tmps : Array Value) : results fn tmps = (fn.results.mapM (resG tmps) >>= fun vs => pure (if h : vs.size = 1 then vs[0] else .tuple vs)) := by
  unfold results
  congr 1
theorem resOne_sound (hT : T.Ok P) (h : Ok base J w0 st μ σ w) {fr : Fr} {tmps : Array Value} (hf : FrAt base J st μ σ w fr tmps) {r : ResultVar} {K : AV → Prop} (hv : resOne T r fr st K) :
    ∃ v a, (resG tmps r).run P w = .ok v w ∧ K a ∧ At base J st μ σ w a v := by
  cases r with
  | tmp t => exact ⟨_, _, rfl, AV.fc_iff.1 hv, hf.tmp t⟩
  | cell a t =>
    simp only [resOne] at hv
    have ha := hf.tmp a
    split at hv
    · exact hv.elim
    · rename_i i hi
      split at hv
      · rename_i p off he
        rw [he] at ha
        obtain ⟨cs, hcs, hl⟩ := hv
        generalize hg : tmps.getD a undef = v at ha
        cases ha
        obtain ⟨_, us, TT, hb, hlen, hr⟩ := h.hp p cs hcs
        obtain ⟨v, r, h1, h2, h3⟩ := ldA_sound (o0 := 0) (b := μ p) hT hi hl (fun j a ha => by
          have hj := (List.getElem?_eq_some_iff.1 ha).1
          have hu : us[j]? = some us[j] := Array.getElem?_eq_getElem (by omega)
          refine ⟨us[j], ?_, (hr j a _ ha hu).2.2⟩
          rw [Nat.zero_add, cell_block hb, hu])
        rw [Nat.zero_add] at h1
        refine ⟨v, r, ?_, h2, h3⟩
        show (do loadVar t (← asAddr (tmps.getD a undef)) : Sem Value).run P w = .ok v w
        rw [hg]
        simp only [asAddr, Sem.run_bind, Sem.run_pure, Result.andThen_ok, h1]
      · exact hv.elim
theorem resAll_sound (hT : T.Ok P) (h : Ok base J w0 st μ σ w) {fr : Fr} {tmps : Array Value} (hf : FrAt base J st μ σ w fr tmps) : ∀ (l : List ResultVar) {K : List AV → Prop}, resAll T l fr st K →
    ∃ vs zs, (l.mapM (resG tmps)).run P w = .ok vs w ∧ K zs ∧ zs.length = vs.length ∧ ∀ (j : Nat) a v, zs[j]? = some a → vs[j]? = some v → At base J st μ σ w a v
  | [], K, hv => ⟨[], [], by simp, hv, rfl, fun j a v h => by simp at h⟩
  | r :: l, K, hv => by
    obtain ⟨v, a, h1, h2, h3⟩ := resOne_sound hT h hf hv
    obtain ⟨vs, zs, k1, k2, k3, k4⟩ := resAll_sound hT h hf l h2
    refine ⟨v :: vs, a :: zs, ?_, k2, by simp [k3], fun j b u hb hu => ?_⟩
    · rw [List.mapM_cons, Sem.run_bind, h1, Result.andThen_ok, Sem.run_bind, k1]
      rfl
    · cases j with
      | zero => simp at hb hu; subst hb; subst hu; exact h3
      | succ j => exact k4 j b u (by simpa using hb) (by simpa using hu)
theorem res_sound (hT : T.Ok P) (h : Ok base J w0 st μ σ w) {fn : Func} {fr : Fr} {tmps : Array Value} (hf : FrAt base J st μ σ w fr tmps) {R : AV → St → Prop}
    (hv : resAll T fn.results.toList fr st fun vs => match vs with | [v] => R v st | vs => R (.tup vs) st) : ∃ v a, (results fn tmps).run P w = .ok v w ∧ R a st ∧ At base J st μ σ w a v := by
  obtain ⟨vs, zs, h1, h2, h3, h4⟩ := resAll_sound hT h hf _ hv
  have hm : (fn.results.mapM (resG tmps)).run P w = .ok vs.toArray w := by
    rw [Array.mapM_eq_mapM_toList, Sem.run_map, h1]
    rfl
  have hr : (results fn tmps).run P w = .ok (if h : vs.toArray.size = 1 then vs.toArray[0] else .tuple vs.toArray) w := by
    rw [results_eq, Sem.run_bind, hm]
    rfl
  rw [hr]
  match zs, vs, h3, h2, h4 with
  | [a], [v], _, h2, h4 => exact ⟨_, a, rfl, h2, h4 0 a v rfl rfl⟩
  | [], [], _, h2, h4 => exact ⟨_, _, rfl, h2, .tup _ _ rfl fun j a u h => by simp at h⟩
  | a :: b :: zs, u :: v :: vs, h3, h2, h4 =>
    refine ⟨.tuple (u :: v :: vs).toArray, _, ?_, h2, .tup _ _ (by simpa using h3) fun j x y hx hy => h4 j x y hx (by simpa using hy)⟩
    rw [dif_neg (by simp)]

/-- a call, out of its body -/
theorem ACalls.of_vc (hT : T.Ok P) (hm : P.follows .mixedOrders = true) {f : FuncId} {fn : Func} {c : Code} (hf : P.funcs[f]? = some fn) (hb : fn.body = some c)
    (hcall : ∀ zs w, (callFunc f zs).run P w = .ok (.enter f zs) w) {args : List AV} {st : St} {R : AV → St → Prop} (hv : frameK fn args fun fr => vc P T c (retQ T fn R) fr st) : ACalls P f args st R := by
  have hv := frameK_iff.1 hv
  refine ⟨hcall, fun base J w0 μ σ w vs h hl ha => ?_⟩
  refine calls_of_wp hf hb (wp_mono (vc_sound hT hm c _ _ st μ σ { tmps := vs ++ Array.replicate (fn.ntmps - vs.size) undef, defers := [] } w hv h ?_ rfl) fun e a' w' hr => ?_)
  · refine ⟨by simp [frame, hl], fun i a v h1 h2 => ?_⟩
    simp only [frame, List.getElem?_append, hl] at h1
    rw [Array.getElem?_append] at h2
    by_cases hi : i < vs.size
    · rw [if_pos hi] at h1 h2
      exact ha i a v h1 h2
    · rw [if_neg hi] at h1 h2
      rw [List.getElem?_replicate] at h1
      rw [Array.getElem?_replicate] at h2
      split at h1
      · split at h2
        · cases h1; cases h2; exact .lit _
        · rename_i q1 q2; exact absurd q1 q2
      · cases h1
  · have ret : ∀ (e : Exit), (e = .normal ∨ e = .ret) → Rel base J w0 st μ σ w (retQ T fn R e) a' w' → a'.defers = [] ∧ ∃ v, (results fn a'.tmps).run P w' = .ok v w' ∧ ∃ v', ∃ r st' μ' σ', Ending.returned v = .returned v' ∧ R r st' ∧ Ok base J w0 st' μ' σ' w' ∧ Ext base J st μ σ w st' μ' σ' w' ∧ At base J st' μ' σ' w' r v' := by
      rintro e he ⟨fr', st', μ', σ', q1, q2, q3, q4, q5⟩
      have q1' : resAll T fn.results.toList fr' st' fun vs => match vs with | [v] => R v st' | vs => R (.tup vs) st' := by
        rcases he with rfl | rfl <;> exact q1
      obtain ⟨v, a, h1, h2, h3⟩ := res_sound hT q2 q4 q1'
      exact ⟨q5, v, h1, v, a, st', μ', σ', rfl, h2, q2, q3, h3⟩
    cases e with
    | normal => exact ret _ (.inl rfl) hr
    | ret => exact ret _ (.inr rfl) hr
    | _ => obtain ⟨fr', st', μ', σ', q1, _⟩ := hr; exact q1.elim

theorem ACalls.mono {f : FuncId} {args : List AV} {R R' : AV → St → Prop} (hk : ∀ r st', R r st' → R' r st') (h : ACalls P f args st R) : ACalls P f args st R' := by
  refine ⟨h.1, fun base J w0 μ σ w vs a b c => (h.2 base J w0 μ σ w vs a b c).mono ?_⟩
  rintro e w' ⟨v, r, st', μ', σ', q1, q2, q3⟩
  exact ⟨v, r, st', μ', σ', q1, hk _ _ q2, q3⟩

def AV.stripR : AV → AV
  | .tup vs => .tup (vs.map AV.strip)
  | a => a.strip
def AV.datR : AV → Bool
  | .tup vs => vs.all AV.dat
  | a => a.dat
/-- the ticket t, and no other one -/
def AV.ren (t : Nat) : AV → AV
  | .sl (.own t' e) sz es => match decide (t' = t) with | true => .sl (.own 0 e) sz es | false => .sl .no sz es
  | a => a
def AV.renR (t : Nat) : AV → AV
  | .tup vs => .tup (vs.map (AV.ren t))
  | a => a.ren t

theorem AV.res_of_datR {r : AV} (hr : r.datR = true) : r.res = true := by
  cases r with
  | tup vs =>
    refine List.all_eq_true.2 fun a ha => ?_
    have := List.all_eq_true.1 hr a ha
    cases a with
    | sl t sz es => cases t <;> first | rfl | exact this
    | _ => exact this
  | sl t sz es => cases t <;> first | rfl | exact hr
  | _ => exact hr
theorem Ok.none (J : Nat → Nat → Prop) (μ : Nat → Nat) (σ : Nat → Tkt) (w : World) (hw : ∀ w', Below w.heap.size w w' → LaidW w') : Ok w.heap.size J w ⟨[], []⟩ μ σ w :=
  ⟨⟨Nat.le_refl _, hw⟩, .refl _ _, fun p cs h => by simp at h, fun p q h => by simp at h, fun t e h => by simp at h⟩

/-- a pure function: run from nothing; of its result no ticket is kept. -/
theorem APure.of {f : FuncId} {args : List AV} {r : AV} (hd : r.datR = true) (h : ACalls P f args ⟨[], []⟩ fun r' _ => r'.stripR = r) : APure P f args r [] := by
  refine ⟨AV.res_of_datR hd, h.1, fun J w vs hw hl ha => ?_⟩
  refine (h.2 w.heap.size J w (fun _ => 0) (fun _ => ⟨0, 0, 0⟩) w vs (Ok.none J _ _ w hw) hl ha).mono ?_
  rintro e w' ⟨v, r', st', μ', σ', rfl, rfl, hok, hx, hat⟩
  refine ⟨v, fun _ => ⟨0, 0, 0⟩, rfl, ⟨hok.bs, hok.below, fun p cs h => by simp at h, fun p q h => by simp at h, fun t e h => by simp at h⟩, ?_⟩
  have hi : ∀ g x, Im w.heap.size J st' μ' σ' g x → g < w'.heap.size → Im w.heap.size J ⟨[], []⟩ (fun _ => 0) (fun _ => ⟨0, 0, 0⟩) g x := fun g x hi _ => ⟨hi.1, fun p hp => by simp at hp, fun t e ht => by simp at ht⟩
  cases r' with
  | tup cs =>
    cases hat with
    | tup cs us e1 hr =>
      refine .tup _ us (by simpa using e1) fun j a u h1 h2 => ?_
      have hda := List.all_eq_true.1 hd a (List.mem_of_getElem? h1)
      simp only [List.getElem?_map, Option.map_eq_some_iff] at h1
      obtain ⟨b, hb, rfl⟩ := h1
      exact (hr j b u hb h2).strip.dat hi hda
  | sl t sz es => exact hat.strip.dat hi hd
  | _ => exact hat.strip.dat hi hd

theorem AV.ren_same (t e sz : Nat) (es : List (List AV)) : (AV.sl (.own t e) sz es).ren t = .sl (.own 0 e) sz es := by simp [AV.ren]
theorem AV.ren_ne {t t' : Nat} (h : t' ≠ t) (e sz : Nat) (es : List (List AV)) : (AV.sl (.own t' e) sz es).ren t = .sl .no sz es := by simp [AV.ren, h]
/-- a ticket's value, the other tickets gone -/
theorem Rp.ren {I I' : Nat → Nat → Prop} {hl hl' : Nat} {μ' : Nat → Nat} {σ' : Nat → Tkt} {tk : List Nat} {t n : Nat} {a : AV} {v : Value} (h : Rp w I hl μ tk σ a v) (hi : ∀ g x, I g x → g < w.heap.size → I' g x) (ht : tk[t]? = some n) (hs : σ' 0 = σ t) (ha : (a.ren t).datA = true) :
    Rp w I' hl' μ' [n] σ' (a.ren t) v := by
  cases h with
  | sl t' sz es g o cap us hs' hn hm hc hr ht1 ht2 =>
    cases t' with
    | no => exact (Rp.sl .no sz es g o cap us hs' hn hm hc hr ht1 ht2).data hi rfl
    | tight => exact (Rp.sl .tight sz es g o cap us hs' hn hm hc hr ht1 ht2).data hi rfl
    | own t' e =>
      have q := (Rp.sl .no sz es g o cap us hs' hn hm hc hr (fun h => by cases h) (fun i e h => by cases h) : Rp w I hl μ tk σ (.sl .no sz es) _)
      by_cases hd : t' = t
      · subst hd
        rw [AV.ren_same]
        refine .sl (.own 0 e) sz es g o cap us hs' hn hm (fun k e j a he ha => ?_) (fun k e j a he ha => (hr k e j a he ha).data hi (List.all_eq_true.1 (hs' k e he).2 a (List.mem_of_getElem? ha))) (fun h => by cases h) (fun i e' hte => ?_)
        · obtain ⟨q1, q2⟩ := hc k e j a he ha
          exact ⟨hi _ _ q1 (World.block_lt_of_cell? w ⟨g, o + k * sz + j, none⟩ q2), q2⟩
        · cases hte
          obtain ⟨e0, k1, k2, k3⟩ := ht2 t' e rfl
          rw [ht] at k1
          cases k1
          exact ⟨n, rfl, k2, fun ee hne => by rw [hs]; exact k3 ee hne⟩
      · rw [AV.ren_ne hd]; exact q.data hi rfl
  | top v => cases ha
  | lit v => exact .lit v
  | sl0 sz a cap hm => exact .sl0 sz a cap hm
  | ptr p off hp => cases ha
  | elt es g o us hf hc hr => cases ha
  | fn f first captured us vs e1 e2 hr1 hr2 => cases ha
  | agg cs us e1 hr => exact (Rp.agg cs us e1 hr).dat hi ha
  | tup cs us e1 hr => cases ha
  | hs p lo n cap sz hp hn hm => cases ha

/-- a pure function whose result keeps one ticket -/
theorem APure.of1 {f : FuncId} {args : List AV} {r : AV} {n : Nat} (hd : r.res = true) (h : ACalls P f args ⟨[], []⟩ fun r' st' => ∃ t, st'.tk[t]? = some n ∧ r'.renR t = r) : APure P f args r [n] := by
  refine ⟨hd, h.1, fun J w vs hw hl ha => ?_⟩
  refine (h.2 w.heap.size J w (fun _ => 0) (fun _ => ⟨0, 0, 0⟩) w vs (Ok.none J _ _ w hw) hl ha).mono ?_
  rintro e w' ⟨v, r', st', μ', σ', rfl, ⟨t, ht, rfl⟩, hok, hx, hat⟩
  obtain ⟨b1, b2, b3, b4⟩ := hok.tkt t n ht
  refine ⟨v, fun _ => σ' t, rfl, ⟨hok.bs, hok.below, fun p cs h => by simp at h, fun p q h => by simp at h, fun t' e h => ?_⟩, ?_⟩
  · refine ⟨b1, b2, fun p hp => by simp at hp, fun t2 e2 h2 _ => ?_⟩
    have h3 := (List.getElem?_eq_some_iff.1 h).1
    have h4 := (List.getElem?_eq_some_iff.1 h2).1
    simp at h3 h4
    omega
  have hi : ∀ g x, Im w.heap.size J st' μ' σ' g x → g < w'.heap.size → Im w.heap.size J ⟨[], [n]⟩ (fun _ => 0) (fun _ => σ' t) g x := fun g x hi _ => ⟨hi.1, fun p hp => by simp at hp, fun t' e _ hg => hi.2.2 t n ht hg⟩
  cases r' with
  | tup cs =>
    cases hat with
    | tup cs us e1 hr =>
      refine .tup _ us (by simpa using e1) fun j a u h1 h2 => ?_
      have hda := List.all_eq_true.1 hd a (List.mem_of_getElem? h1)
      simp only [List.getElem?_map, Option.map_eq_some_iff] at h1
      obtain ⟨b, hb, rfl⟩ := h1
      exact (hr j b u hb h2).ren hi ht rfl hda
  | sl t2 sz es =>
    have hd' : ((AV.sl t2 sz es).ren t).datA = true := by
      cases t2 with
      | own t3 e =>
        by_cases h3 : t3 = t
        · subst h3; rw [AV.ren_same]; rfl
        · rw [AV.ren_ne h3]; rfl
      | _ => rfl
    exact hat.ren hi ht rfl hd'
  | _ => exact hat.ren hi ht rfl hd

/-- the table, as a list -/
def findT : List (Nat × TI) → Tab
  | [], _ => none
  | (t, i) :: r, x => match Nat.beq x t with | true => some i | false => findT r x
def TOk (P : Program) (t : TypeId) (i : TI) : Prop := P.underlying t = some i.desc ∧ ∃ inf z, P.info? t = some inf ∧ inf.zero = some z ∧ z.cells = i.zero.toArray ∧ inf.size = i.size ∧ inf.bytes = i.bytes ∧ i.zero.length = i.size
inductive TOks (P : Program) : List (Nat × TI) → Prop
  | nil : TOks P []
  | cons {t : Nat} {i : TI} {r : List (Nat × TI)} (h : TOk P t i) (hr : TOks P r) : TOks P ((t, i) :: r)
theorem findT_ok {l : List (Nat × TI)} (h : TOks P l) : (findT l).Ok P := by
  induction h with
  | nil => intro t i h; cases h
  | cons h hr ih =>
    intro x j hj
    unfold findT at hj
    split at hj
    · rename_i he
      have he := Nat.eq_of_beq_eq_true he
      subst he
      cases hj
      exact h
    · exact ih x j hj
end
end Go.Proofs.YtfhodppaelfcfaaDoor
