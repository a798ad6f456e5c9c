/- The operations over abstract values: calls; all operations together. No statement of its own. -/
import Derived.Test.YtfhodppaelfcfaaDoorVs7
namespace Go.Proofs.YtfhodppaelfcfaaDoor
open Go.RowKit

section
variable {base : Nat} {J : Nat → Nat → Prop} {w0 : World} {st : St} {μ : Nat → Nat} {σ : Nat → Tkt} {w w' : World} {P : Program} {T : Tab} {K : AV → St → Prop}

theorem Rp.data {I I' : Nat → Nat → Prop} {hl hl' : Nat} {μ' : Nat → Nat} {σ' : Nat → Tkt} {tk tk' : List Nat} {a : AV} {v : Value} (h : Rp w I hl μ tk σ a v) (hi : ∀ g x, I g x → g < w.heap.size → I' g x) : a.flat = true → Rp w I' hl' μ' tk' σ' a v := by
  induction h with
  | top v => intro h; cases h
  | lit v => intro _; exact .lit v
  | sl0 sz a cap hm => intro _; exact .sl0 sz a cap hm
  | sl t sz es g o cap us hs hn hm hc hr ht1 ht2 ih =>
    intro hf
    refine .sl t sz es g o cap us hs hn hm (fun k e j a he ha => ?_) (fun k e j a he ha => ih k e j a he ha (List.all_eq_true.1 (hs k e he).2 a (List.mem_of_getElem? ha))) ht1 (fun i e hte => ?_)
    · obtain ⟨q1, q2⟩ := hc k e j a he ha
      exact ⟨hi _ _ q1 (World.block_lt_of_cell? w ⟨g, o + k * sz + j, none⟩ q2), q2⟩
    · subst hte; cases hf
  | ptr p off hp => intro h; cases h
  | elt es g o us hf hc hr ih => intro h; cases h
  | fn f first captured us vs e1 e2 hr1 hr2 ih1 ih2 => intro h; cases h
  | agg cs us e1 hr ih => intro h; cases h
  | tup cs us e1 hr ih => intro h; cases h
  | hs p lo n cap sz hp hn hm => intro h; cases h
theorem Rp.dat {I I' : Nat → Nat → Prop} {hl hl' : Nat} {μ' : Nat → Nat} {σ' : Nat → Tkt} {tk tk' : List Nat} {a : AV} {v : Value} (h : Rp w I hl μ tk σ a v) (hi : ∀ g x, I g x → g < w.heap.size → I' g x) (ha : a.dat = true) : Rp w I' hl' μ' tk' σ' a v := by
  cases h with
  | agg cs us e1 hr => exact .agg cs us e1 fun j a u h1 h2 => (hr j a u h1 h2).data hi (List.all_eq_true.1 ha a (List.mem_of_getElem? h1))
  | top v => cases ha
  | lit v => exact .lit v
  | sl0 sz a cap hm => exact .sl0 sz a cap hm
  | sl t sz es g o cap us hs hn hm hc hr ht1 ht2 => exact (Rp.sl t sz es g o cap us hs hn hm hc hr ht1 ht2).data hi ha
  | ptr p off hp => cases ha
  | elt es g o us hf hc hr => cases ha
  | fn f first captured us vs e1 e2 hr1 hr2 => cases ha
  | tup cs us e1 hr => cases ha
  | hs p lo n cap sz hp hn hm => cases ha
theorem CellsW.length : ∀ {zs zs' : List AV}, CellsW zs zs' → zs.length = zs'.length
  | [], [], _ => rfl
  | _ :: _, _ :: _, h => by simp [CellsW.length h.2]
  | [], _ :: _, h => h.elim
  | _ :: _, [], h => h.elim
theorem CellsW.get : ∀ {zs zs' : List AV}, CellsW zs zs' → ∀ (j : Nat) (a' : AV), zs'[j]? = some a' → ∃ a, zs[j]? = some a ∧ cellW a a'
  | [], [], _, _, _, h => by simp at h
  | a :: r, b :: r', h, 0, a', h' => by simp at h'; subst h'; exact ⟨a, rfl, h.1⟩
  | a :: r, b :: r', h, j + 1, a', h' => by simpa using CellsW.get h.2 j a' (by simpa using h')
  | [], _ :: _, h, _, _, _ => h.elim
  | _ :: _, [], h, _, _, _ => h.elim
theorem cellW_at {I I' : Nat → Nat → Prop} {hl hl' : Nat} {μ' : Nat → Nat} {σ' : Nat → Tkt} {tk tk' : List Nat} {a a' : AV} {v : Value} (h : Rp w I hl μ tk σ a v) (hi : ∀ g x, I g x → g < w.heap.size → I' g x) (hw : cellW a a') : Rp w I' hl' μ' tk' σ' a' v := by
  rcases hw with ⟨rfl, hf⟩ | ⟨rfl, sz, rfl⟩
  · exact h.strip.data hi hf
  · cases h
    exact .sl0 sz none 0 (Nat.zero_le _)
theorem argW_at {I I' : Nat → Nat → Prop} {hl hl' : Nat} {μ' : Nat → Nat} {σ' : Nat → Tkt} {tk tk' : List Nat} {a a' : AV} {v : Value} (h : Rp w I hl μ tk σ a v) (hi : ∀ g x, I g x → g < w.heap.size → I' g x) (hw : argW a a') : Rp w I' hl' μ' tk' σ' a' v := by
  rcases hw with (⟨rfl, hd⟩ | ⟨cs, cs', rfl, rfl, hc⟩) | ⟨rfl, sz, rfl⟩
  · exact h.strip.dat hi hd
  · cases h with
    | agg _ us e1 hr =>
      refine .agg _ us (hc.length.symm.trans e1) fun j a u ha hu => ?_
      obtain ⟨b, hb, hbw⟩ := hc.get j a ha
      exact cellW_at (hr j b u hb hu) hi hbw
  · cases h
    exact .sl0 sz none 0 (Nat.zero_le _)
theorem ArgsW.length : ∀ {zs zs' : List AV}, ArgsW zs zs' → zs.length = zs'.length
  | [], [], _ => rfl
  | _ :: _, _ :: _, h => by simp [ArgsW.length h.2]
  | [], _ :: _, h => h.elim
  | _ :: _, [], h => h.elim
theorem ArgsW.get : ∀ {zs zs' : List AV}, ArgsW zs zs' → ∀ (j : Nat) (a' : AV), zs'[j]? = some a' → ∃ a, zs[j]? = some a ∧ argW a a'
  | [], [], _, _, _, h => by simp at h
  | a :: r, b :: r', h, 0, a', h' => by simp at h'; subst h'; exact ⟨a, rfl, h.1⟩
  | a :: r, b :: r', h, j + 1, a', h' => by simpa using ArgsW.get h.2 j a' (by simpa using h')
  | [], _ :: _, h, _, _, _ => h.elim
  | _ :: _, [], h, _, _, _ => h.elim
theorem AV.dat_strip {a : AV} (h : a.datA = true) : a.strip.dat = true := by
  cases a with
  | sl t sz es => rfl
  | _ => exact h
theorem ArgsW.strip : ∀ (zs : List AV), zs.all AV.datA = true → ArgsW zs (zs.map AV.strip)
  | [], _ => trivial
  | a :: r, h => by
    rw [List.all_cons, Bool.and_eq_true] at h
    exact ⟨.inl (.inl ⟨rfl, AV.dat_strip h.1⟩), ArgsW.strip r h.2⟩

/-- a pure function's result, taken over -/
theorem Rp.shift {I I' : Nat → Nat → Prop} {hl hl' : Nat} {μ' : Nat → Nat} {σ' : Nat → Tkt} {tk ns : List Nat} {a : AV} {v : Value} (h : Rp w I hl μ' ns σ' a v) (hi : ∀ g x, I g x → g < w.heap.size → I' g x) (ha : a.datA = true) :
    Rp w I' hl' μ (tk ++ ns) (fun t => if t < tk.length then σ t else σ' (t - tk.length)) (a.shift tk.length) v := by
  cases h with
  | agg cs us e1 hr => exact (Rp.agg cs us e1 hr).dat hi ha
  | top v => cases ha
  | lit v => exact .lit v
  | sl0 sz a cap hm => exact .sl0 sz a cap hm
  | sl t sz es g o cap us hs hn hm hc hr ht1 ht2 =>
    cases t with
    | no => exact (Rp.sl .no sz es g o cap us hs hn hm hc hr ht1 ht2).data hi rfl
    | tight => exact (Rp.sl .tight sz es g o cap us hs hn hm hc hr ht1 ht2).data hi rfl
    | own t e =>
      refine .sl (.own (tk.length + t) e) sz es g o cap us hs hn hm (fun k e j a he ha => ?_) (fun k e j a he ha => (hr k e j a he ha).data hi (List.all_eq_true.1 (hs k e he).2 a (List.mem_of_getElem? ha))) (fun h => by cases h) (fun i e' hte => ?_)
      · obtain ⟨q1, q2⟩ := hc k e j a he ha
        exact ⟨hi _ _ q1 (World.block_lt_of_cell? w ⟨g, o + k * sz + j, none⟩ q2), q2⟩
      · cases hte
        obtain ⟨e0, k1, k2, k3⟩ := ht2 t e rfl
        refine ⟨e0, ?_, k2, ?_⟩
        · rw [List.getElem?_append_right (by omega), show tk.length + t - tk.length = t by omega]; exact k1
        · simp only [show ¬ (tk.length + t < tk.length) by omega, if_false, show tk.length + t - tk.length = t by omega]
          exact k3
  | ptr p off hp => cases ha
  | elt es g o us hf hc hr => cases ha
  | fn f first captured us vs e1 e2 hr1 hr2 => cases ha
  | tup cs us e1 hr => cases ha
  | hs p lo n cap sz hp hn hm => cases ha

theorem call_run {ρc : Operand → Value} {o : Oper} {c : Call} {f : Operand} {k : FuncId} {us vs : Array Value} (ho : o.op = .call c) (hc : c.callee = .value f) (hf : ρc f = .func (.func k) us vs) (hcall : ∀ zs w, (callFunc k zs).run P w = .ok (.enter k zs) w) :
    (execOp ρc o).run P w = .ok (.enter k (us ++ c.args.map ρc ++ vs)) w := by
  simp [execOp, ho, resolve, hc, hf, Deferred.ofValue, invoke, hcall]

theorem vcCall_sound (h : Ok base J w0 st μ σ w) {f : FuncId} {args : List AV} {vs : Array Value} (hl : args.length = vs.size) (ha : ∀ (j : Nat) a v, args[j]? = some a → vs[j]? = some v → At base J st μ σ w a v) (hv : VCall P f args st K) :
    (∀ zs w, (callFunc f zs).run P w = .ok (.enter f zs) w) ∧ Calls P f vs w fun e w'' => ∃ v, e = .returned v ∧ NN base J w0 st μ σ w K v w'' := by
  have hargs : ∀ args', ArgsW args args' → args'.length = vs.size ∧ ∀ (j : Nat) a v, args'[j]? = some a → vs[j]? = some v → At w.heap.size (Im base J st μ σ) ⟨[], []⟩ (fun _ => 0) (fun _ => ⟨0, 0, 0⟩) w a v := by
    intro args' hw
    refine ⟨hw.length.symm.trans hl, fun j a v hj hv' => ?_⟩
    obtain ⟨b, hb, hbw⟩ := hw.get j a hj
    exact argW_at (ha j b v hb hv') (fun g x hi _ => ⟨fun _ => hi, fun p hp => by simp at hp, fun t e ht => by simp at ht⟩) hbw
  have pure0 : ∀ args' r, ArgsW args args' → APure P f args' r [] → K r st → (∀ zs w, (callFunc f zs).run P w = .ok (.enter f zs) w) ∧ Calls P f vs w fun e w'' => ∃ v, e = .returned v ∧ NN base J w0 st μ σ w K v w'' := by
    intro args' r hw ⟨hres, hcall, hp⟩ hk
    obtain ⟨hl', ha'⟩ := hargs args' hw
    refine ⟨hcall, (hp (Im base J st μ σ) w vs h.laid' hl' ha').mono ?_⟩
    rintro e w' ⟨v, σ', rfl, hok, hat⟩
    obtain ⟨ok', ext'⟩ := h.step hok.below
    refine ⟨v, rfl, r, st, μ, σ, hk, ok', ext', ?_⟩
    have hi : ∀ g x, Im w.heap.size (Im base J st μ σ) ⟨[], []⟩ (fun _ => 0) σ' g x → g < w'.heap.size → Im base J st μ σ g x := fun g x hi _ => by
      by_cases hg : g < w.heap.size
      · exact hi.1 hg
      · exact h.im_new (by omega) x
    have one : ∀ {a : AV} {v : Value}, Rp w' (Im w.heap.size (Im base J st μ σ) ⟨[], []⟩ (fun _ => 0) σ') 0 (fun _ => 0) [] σ' a v → a.datA = true → At base J st μ σ w' a v := fun {a v} hr hd => by
      cases a with
      | sl t sz es =>
        cases t with
        | own t e =>
          rcases hr.sl_inv with ⟨h1, _⟩ | ⟨_, _, _, _, _, _, _, _, _, _, _, h2⟩
          · cases h1
          · obtain ⟨e0, k1, _⟩ := h2 t e rfl
            simp at k1
        | no => exact hr.dat hi rfl
        | tight => exact hr.dat hi rfl
      | _ => exact hr.dat hi hd
    cases r with
    | tup cs =>
      cases hat with
      | tup cs us e1 hr => exact .tup cs us e1 fun j a u h1 h2 => one (hr j a u h1 h2) (List.all_eq_true.1 hres a (List.mem_of_getElem? h1))
    | _ => exact one hat hres
  rcases hv with ⟨hall, hpu, hk⟩ | ⟨hall, hw, hpu, hk⟩ | ⟨hall, hw, hpu, hk⟩ | ⟨hcall, hp⟩
  · exact pure0 _ _ (ArgsW.strip _ hall) hpu hk
  · exact pure0 _ _ hw hpu hk
  · rename_i args' r ns
    obtain ⟨hres, hcall, hp⟩ := hpu
    obtain ⟨hl', ha'⟩ := hargs args' hw
    refine ⟨hcall, (hp (Im base J st μ σ) w vs h.laid' hl' ha').mono ?_⟩
    rintro e w' ⟨v, σ', rfl, hok, hat⟩
    have hb := hok.below
    obtain ⟨ok1, ext1⟩ := h.step hb
    have hcase : ∀ t e, (st.tk ++ ns)[t]? = some e → (t < st.tk.length ∧ st.tk[t]? = some e) ∨ (¬ t < st.tk.length ∧ ns[t - st.tk.length]? = some e) := fun t e ht => by
      by_cases hlt : t < st.tk.length
      · rw [List.getElem?_append_left hlt] at ht; exact .inl ⟨hlt, ht⟩
      · rw [List.getElem?_append_right (by omega)] at ht; exact .inr ⟨hlt, ht⟩
    have hx : Ext base J st μ σ w ⟨st.heap, st.tk ++ ns⟩ μ (fun t => if t < st.tk.length then σ t else σ' (t - st.tk.length)) w' := by
      refine ⟨Nat.le_refl _, fun _ _ => rfl, fun t e he => ⟨e, ?_, Nat.le_refl _, fun _ => ?_⟩, fun g x hi hg => ⟨⟨hi.1, hi.2.1, fun t e ht hg' => ?_⟩, hb.cell (p := ⟨g, x, none⟩) hg⟩, hb.size⟩
      · rw [List.getElem?_append_left (List.getElem?_eq_some_iff.1 he).1]; exact he
      · simp only [(List.getElem?_eq_some_iff.1 he).1, if_true]
      · rcases hcase t e ht with ⟨c1, c2⟩ | ⟨c1, c2⟩
        · simp only [c1, if_true] at hg' ⊢
          exact hi.2.2 t e c2 hg'
        · simp only [c1, if_false] at hg'
          have := (hok.tkt _ e c2).1
          omega
    have hok2 : Ok base J w0 ⟨st.heap, st.tk ++ ns⟩ μ (fun t => if t < st.tk.length then σ t else σ' (t - st.tk.length)) w' := by
      refine ⟨h.bs, ok1.below, fun p cs hc => ?_, h.inj, fun t e ht => ?_⟩
      · obtain ⟨q1, us', T', hbk, hl', hr⟩ := h.hp p cs hc
        refine ⟨q1, us', T', (hb.block _ (Array.getElem?_eq_some_iff.1 hbk).1).trans hbk, hl', fun j a u ha' hu => ?_⟩
        obtain ⟨r1, r2, r3⟩ := hr j a u ha' hu
        exact ⟨r1, r2, hx.at r3⟩
      · rcases hcase t e ht with ⟨c1, c2⟩ | ⟨c1, c2⟩
        · obtain ⟨q1, ⟨us', T', hbk, q2, q3⟩, q4, q5⟩ := h.tkt t e c2
          simp only [c1, if_true]
          refine ⟨q1, ⟨us', T', (hb.block _ (Array.getElem?_eq_some_iff.1 hbk).1).trans hbk, q2, q3⟩, q4, fun t' e' ht' hg => ?_⟩
          rcases hcase t' e' ht' with ⟨d1, d2⟩ | ⟨d1, d2⟩
          · simp only [d1, if_true] at hg; exact q5 t' e' d2 hg
          · simp only [d1, if_false] at hg
            have := (hok.tkt _ e' d2).1
            have := (h.tk_lt c2).2
            omega
        · obtain ⟨q1, ⟨us', T', hbk, q2, q3⟩, q4, q5⟩ := hok.tkt _ e c2
          simp only [c1, if_false]
          have hbase := h.base_le
          refine ⟨by omega, ⟨us', T', hbk, q2, q3⟩, fun p hp => ?_, fun t' e' ht' hg => ?_⟩
          · have := (h.mu_lt hp).2
            omega
          · rcases hcase t' e' ht' with ⟨d1, d2⟩ | ⟨d1, d2⟩
            · simp only [d1, if_true] at hg
              have := (h.tk_lt d2).2
              omega
            · simp only [d1, if_false] at hg
              have := q5 _ e' d2 hg
              omega
    refine ⟨v, rfl, r.shiftR st.tk.length, ⟨st.heap, st.tk ++ ns⟩, μ, _, hk, hok2, hx, ?_⟩
    have hi : ∀ g x, Im w.heap.size (Im base J st μ σ) ⟨[], ns⟩ (fun _ => 0) σ' g x → g < w'.heap.size → Im base J ⟨st.heap, st.tk ++ ns⟩ μ (fun t => if t < st.tk.length then σ t else σ' (t - st.tk.length)) g x := fun g x hi _ => by
      by_cases hg : g < w.heap.size
      · exact (hx.im g x (hi.1 hg) hg).1
      · refine ⟨fun hb' => by have := h.base_le; omega, fun p hp => by have := (h.mu_lt hp).2; omega, fun t e ht hg' => ?_⟩
        rcases hcase t e ht with ⟨c1, c2⟩ | ⟨c1, c2⟩
        · simp only [c1, if_true] at hg'
          have := (h.tk_lt c2).2
          omega
        · simp only [c1, if_false] at hg' ⊢
          exact hi.2.2 _ e c2 hg'
    cases r with
    | tup cs =>
      cases hat with
      | tup cs us e1 hr =>
        refine .tup _ us (by simpa using e1) fun j a u h1 h2 => ?_
        simp only [List.getElem?_map, Option.map_eq_some_iff] at h1
        obtain ⟨b, hb1, rfl⟩ := h1
        exact (hr j b u hb1 h2).shift hi (List.all_eq_true.1 hres b (List.mem_of_getElem? hb1))
    | _ => exact hat.shift hi hres
  · refine ⟨hcall, (hp base J w0 μ σ w vs h hl ha).mono ?_⟩
    rintro e w' ⟨v, r, st', μ', σ', rfl, h1, h2, h3, h4⟩
    exact ⟨v, rfl, r, st', μ', σ', h1, h2, h3, h4⟩

theorem args_at {I : Nat → Nat → Prop} {hl : Nat} {tk : List Nat} {ρ : Operand → AV} {ρc : Operand → Value} (hρ : ∀ x, Rp w I hl μ tk σ (ρ x) (ρc x)) {zs bs : List AV} {us vs : Array Value} (args : Array Operand)
    (h1 : zs.length = us.size) (h2 : bs.length = vs.size) (r1 : ∀ (j : Nat) a u, zs[j]? = some a → us[j]? = some u → Rp w I hl μ tk σ a u) (r2 : ∀ (j : Nat) a u, bs[j]? = some a → vs[j]? = some u → Rp w I hl μ tk σ a u) :
    (zs ++ args.toList.map ρ ++ bs).length = (us ++ args.map ρc ++ vs).size ∧ ∀ (j : Nat) a v, (zs ++ args.toList.map ρ ++ bs)[j]? = some a → (us ++ args.map ρc ++ vs)[j]? = some v → Rp w I hl μ tk σ a v := by
  refine ⟨by simp [h1, h2], fun j a v ha hv => ?_⟩
  have hmid : (zs ++ args.toList.map ρ).length = (us ++ args.map ρc).size := by simp [h1]
  rw [List.getElem?_append] at ha
  rw [Array.getElem?_append] at hv
  by_cases hj : j < (zs ++ args.toList.map ρ).length
  · rw [if_pos hj] at ha
    rw [if_pos (by omega)] at hv
    rw [List.getElem?_append] at ha
    rw [Array.getElem?_append] at hv
    by_cases hj2 : j < zs.length
    · rw [if_pos hj2] at ha
      rw [if_pos (by omega)] at hv
      exact r1 j a v ha hv
    · rw [if_neg hj2] at ha
      rw [if_neg (by omega), ← h1] at hv
      simp only [List.getElem?_map, Option.map_eq_some_iff] at ha
      obtain ⟨x, hx, rfl⟩ := ha
      rw [Array.getElem?_toList] at hx
      simp [hx] at hv
      subst hv
      exact hρ x
  · rw [if_neg hj] at ha
    rw [if_neg (by omega), ← hmid] at hv
    exact r2 _ a v ha hv
theorem ofV_at {I : Nat → Nat → Prop} {hl : Nat} {tk : List Nat} (us : Array Value) : (us.toList.map AV.ofV).length = us.size ∧ ∀ (j : Nat) a u, (us.toList.map AV.ofV)[j]? = some a → us[j]? = some u → Rp w I hl μ tk σ a u := by
  refine ⟨by simp, fun j a u ha hu => ?_⟩
  simp only [List.getElem?_map, Option.map_eq_some_iff] at ha
  obtain ⟨x, hx, rfl⟩ := ha
  rw [Array.getElem?_toList, hu] at hx
  cases hx
  exact .ofV _

theorem call_sound (hT : T.Ok P) (h : Ok base J w0 st μ σ w) {ρ : Operand → AV} {ρc : Operand → Value} (hρ : ∀ x, At base J st μ σ w (ρ x) (ρc x)) {o : Oper} {c : Call} (ho : o.op = .call c)
    (hv : vcOp P T (.call c) ρ st K) : Fin P (NN base J w0 st μ σ w K) ((execOp ρc o).run P w) := by
  simp only [vcOp] at hv
  split at hv
  · rename_i hcal
    split at hv
    · rename_i x hargs
      have hargs' : c.args = #[x] := Array.ext' hargs
      split at hv
      · rename_i hd
        obtain ⟨i, hi, hdd⟩ := Option.map_eq_some_iff.1 hd
        obtain ⟨t, ht, hi'⟩ := Option.bind_eq_some_iff.1 hi
        have hu : P.underlying t = some .string := by rw [← hdd]; exact (hT t i hi').1
        obtain ⟨v, r, q1, q2, q3⟩ := vcLenS_sound (hρ x) (ty := o.type) hu hv
        have hlen : (Builtin.len_ c.argTypes o.type #[ρc x]).run P w = .ok v w := by
          simp only [Builtin.len_, ht] at q1 ⊢
          exact q1
        have e : (execOp ρc o).run P w = .ok (.value v) w := by
          simp [execOp, ho, resolve, hcal, hargs', invoke, builtin, hlen]
        rw [e]
        exact NN.same h q2 q3
      · rename_i e' hd
        obtain ⟨i, hi, hdd⟩ := Option.map_eq_some_iff.1 hd
        obtain ⟨t, ht, hi'⟩ := Option.bind_eq_some_iff.1 hi
        have hu : P.underlying t = some (.slice e') := by rw [← hdd]; exact (hT t i hi').1
        obtain ⟨v, r, q1, q2, q3⟩ := vcLenL_sound (hρ x) (ty := o.type) hu hv
        have hlen : (Builtin.len_ c.argTypes o.type #[ρc x]).run P w = .ok v w := by
          simp only [Builtin.len_, ht] at q1 ⊢
          exact q1
        have e : (execOp ρc o).run P w = .ok (.value v) w := by
          simp [execOp, ho, resolve, hcal, hargs', invoke, builtin, hlen]
        rw [e]
        exact NN.same h q2 q3
      · exact hv.elim
    · exact hv.elim
  · rename_i hcal
    split at hv
    · rename_i x rs hargs
      obtain ⟨v, r, q1, q2, q3⟩ := minA_sound (mx := false) (x := ρ x) (a := ρc x) (rs.map ρ) (rs.map ρc) _ _ (hρ x) (by simp) (fun j y b h1 h2 => by
        simp only [List.getElem?_map, Option.map_eq_some_iff] at h1 h2
        obtain ⟨p, hp, rfl⟩ := h1
        obtain ⟨p', hp', rfl⟩ := h2
        rw [hp] at hp'
        cases hp'
        exact hρ _) hv
      have hm : (Builtin.min_ c.argTypes o.type (c.args.map ρc)).run P w = .ok v w := by
        unfold Builtin.min_
        simp only [Array.toList_map, hargs, List.map_cons]
        exact q1
      have e : (execOp ρc o).run P w = .ok (.value v) w := by
        simp [execOp, ho, resolve, hcal, invoke, builtin, hm]
      rw [e]
      exact NN.same h q2 q3
    · exact hv.elim
  · rename_i hcal
    split at hv
    · rename_i x rs hargs
      obtain ⟨v, r, q1, q2, q3⟩ := minA_sound (mx := true) (x := ρ x) (a := ρc x) (rs.map ρ) (rs.map ρc) _ _ (hρ x) (by simp) (fun j y b h1 h2 => by
        simp only [List.getElem?_map, Option.map_eq_some_iff] at h1 h2
        obtain ⟨p, hp, rfl⟩ := h1
        obtain ⟨p', hp', rfl⟩ := h2
        rw [hp] at hp'
        cases hp'
        exact hρ _) hv
      have hm : (Builtin.max_ c.argTypes o.type (c.args.map ρc)).run P w = .ok v w := by
        unfold Builtin.max_
        simp only [Array.toList_map, hargs, List.map_cons]
        exact q1
      have e : (execOp ρc o).run P w = .ok (.value v) w := by
        simp [execOp, ho, resolve, hcal, invoke, builtin, hm]
      rw [e]
      exact NN.same h q2 q3
    · exact hv.elim
  · rename_i hcal
    split at hv
    · rename_i x hargs
      have hargs' : c.args = #[x] := Array.ext' hargs
      split at hv
      · rename_i e' hd
        obtain ⟨i0, hi0, hdd⟩ := Option.map_eq_some_iff.1 hd
        obtain ⟨t, ht, hi0'⟩ := Option.bind_eq_some_iff.1 hi0
        have hu : P.underlying t = some (.slice e') := by rw [← hdd]; exact (hT t i0 hi0').1
        split at hv
        · rename_i i hi
          have hx := hρ x
          split at hv
          · rename_i p lo n cap sz he
            rw [he] at hx
            split at hv
            · rename_i hck
              rw [Bool.and_eq_true] at hck
              have hz1 := hck.2
              have hsz := of_decide_eq_true hck.1
              subst hsz
              obtain ⟨cs, hcs, hle, hk⟩ := hv
              have hzl : i.zero.length = i.size := by
                obtain ⟨_, inf, z, _, _, _, _, _, hzl⟩ := hT e' i hi
                exact hzl
              obtain ⟨z, hz, hzc⟩ := hT.zeroV hi w
              generalize hv2 : ρc x = v at hx
              cases hx with
              | hs _ _ _ _ _ hp hnc hm =>
                obtain ⟨_, us, TT, hb, hlen, hr⟩ := h.hp p cs hcs
                have hzn : (Builtin.zeroCells i.zero.toArray n).size = n * i.size := by simp [Builtin.zeroCells, hzl]
                obtain ⟨ok', ext'⟩ := h.store (off := lo) hcs (vs := zerosL i.zero n) (us := (Builtin.zeroCells i.zero.toArray n).toList) (by rw [zerosL_len, hzl, Array.length_toList, hzn]) (by rw [zerosL_len, hzl]; exact hle) (fun j a u ha hu => by
                  have hj := (List.getElem?_eq_some_iff.1 ha).1
                  rw [zerosL_len] at hj
                  rw [zerosL_at hj] at ha
                  rw [Array.getElem?_toList, zeroCells_at hj] at hu
                  cases ha
                  cases hu
                  exact ⟨zero_one hz1 hj, rfl, .lit _⟩)
                have hlen2 : (Builtin.zeroCells i.zero.toArray n).toList.length = n * i.size := by rw [Array.length_toList, hzn]
                have hst := run_storeCells_cells (P := P) (μ p) lo (Builtin.zeroCells i.zero.toArray n).toList 0 w
                  (fun j hj => by rw [Nat.add_zero, cell_block hb, Array.getElem?_eq_getElem (by omega)]; rfl)
                  (fun j hj => by simp [World.frozen?, hb])
                  (fun v hv => by
                    obtain ⟨j, hj⟩ := List.mem_iff_getElem?.1 hv
                    have hjl := (List.getElem?_eq_some_iff.1 hj).1
                    rw [hlen2, ← hzl] at hjl
                    rw [Array.getElem?_toList, zeroCells_at hjl] at hj
                    cases hj
                    exact zero_one hz1 hjl)
                rw [Nat.add_zero] at hst
                have hcl : (Builtin.clear_ c.argTypes o.type #[.slice (some ⟨μ p, lo, none⟩) n cap]).run P w = .ok (.tuple #[]) (w.setCells (μ p) lo (Builtin.zeroCells i.zero.toArray n).toList) := by
                  cases n with
                  | zero =>
                    have e0 : (Builtin.zeroCells i.zero.toArray 0).toList = [] := by simp [Builtin.zeroCells]
                    rw [e0]
                    simp [Builtin.clear_, ht, run_underlying hu, World.setCells]
                  | succ n => simp [Builtin.clear_, ht, run_underlying hu, hz, hzc, hst]
                have e : (execOp ρc o).run P w = .ok (.value (.tuple #[])) (w.setCells (μ p) lo (Builtin.zeroCells i.zero.toArray n).toList) := by
                  simp [execOp, ho, resolve, hcal, hargs', invoke, builtin, hv2, hcl]
                rw [e]
                exact ⟨_, _, _, _, hk, ok', ext', .lit _⟩
            · exact hv.elim
          · exact hv.elim
        · exact hv.elim
      · exact hv.elim
    · exact hv.elim
  · rename_i hcal
    split at hv
    · rename_i s x hargs
      have hargs' : c.args = #[s, x] := Array.ext' hargs
      split at hv
      · rename_i e' hd
        obtain ⟨i0, hi0, hdd⟩ := Option.map_eq_some_iff.1 hd
        obtain ⟨t, ht, hi0'⟩ := Option.bind_eq_some_iff.1 hi0
        have hu : P.underlying t = some (.slice e') := by rw [← hdd]; exact (hT t i0 hi0').1
        split at hv
        · rename_i i hi
          have go : ∀ (tx : TypeId), c.argTypes[1]? = some tx → ((∃ e'', P.underlying tx = some (.slice e'')) ∨ P.underlying tx = some .string) → vcApp i (ρ s) (ρ x) st K → Fin P (NN base J w0 st μ σ w K) ((execOp ρc o).run P w) := by
            intro tx htx hk hv
            obtain ⟨v, w', q1, q2⟩ := vcApp_sound hT h hu hi hk (hρ s) (hρ x) hv o.type
            have hap : (Builtin.append_ c.argTypes o.type #[ρc s, ρc x]).run P w = .ok v w' := by
              simp only [Builtin.append_, ht, htx] at q1 ⊢
              exact q1
            have e : (execOp ρc o).run P w = .ok (.value v) w' := by
              simp [execOp, ho, resolve, hcal, hargs', invoke, builtin, hap]
            rw [e]
            exact q2
          split at hv
          · rename_i e2 hd2
            obtain ⟨i2, hi2, hdd2⟩ := Option.map_eq_some_iff.1 hd2
            obtain ⟨tx, htx, hi2'⟩ := Option.bind_eq_some_iff.1 hi2
            exact go tx htx (.inl ⟨e2, by rw [← hdd2]; exact (hT tx i2 hi2').1⟩) hv
          · rename_i hd2
            obtain ⟨i2, hi2, hdd2⟩ := Option.map_eq_some_iff.1 hd2
            obtain ⟨tx, htx, hi2'⟩ := Option.bind_eq_some_iff.1 hi2
            exact go tx htx (.inr (by rw [← hdd2]; exact (hT tx i2 hi2').1)) hv
          · exact hv.elim
        · exact hv.elim
      · exact hv.elim
    · exact hv.elim
  · rename_i f hcal
    have hf := hρ f
    split at hv
    · rename_i k us vs he
      rw [he] at hf
      obtain ⟨a1, a2⟩ := ofV_at (w := w) (I := Im base J st μ σ) (hl := st.heap.length) (μ := μ) (tk := st.tk) (σ := σ) us
      obtain ⟨b1, b2⟩ := ofV_at (w := w) (I := Im base J st μ σ) (hl := st.heap.length) (μ := μ) (tk := st.tk) (σ := σ) vs
      obtain ⟨c1, c2⟩ := args_at hρ c.args a1 b1 a2 b2
      obtain ⟨hcall, hc⟩ := vcCall_sound h c1 c2 hv
      rw [call_run ho hcal hf.of_lit hcall]
      exact hc
    · rename_i k us vs he
      rw [he] at hf
      generalize hg : ρc f = fv at hf
      cases hf with
      | fn f first captured us vs e1 e2 hr1 hr2 =>
        obtain ⟨c1, c2⟩ := args_at hρ c.args e1 e2 hr1 hr2
        obtain ⟨hcall, hc⟩ := vcCall_sound h c1 c2 hv
        rw [call_run ho hcal hg hcall]
        exact hc
    · exact hv.elim
  · exact hv.elim
end
end Go.Proofs.YtfhodppaelfcfaaDoor
