/- States and worlds: what a new block, a store, a draw, an append do to them. No statement of its own. -/
import Derived.Test.YtfhodppaelfcfaaDoorVb
namespace Go.Proofs.YtfhodppaelfcfaaDoor
open Go.RowKit

section
variable {base : Nat} {J : Nat → Nat → Prop} {w0 : World} {st : St} {μ : Nat → Nat} {σ : Nat → Tkt} {w w' : World}

theorem Ok.mu_lt (h : Ok base J w0 st μ σ w) {p : Nat} (hp : p < st.heap.length) : base ≤ μ p ∧ μ p < w.heap.size := by
  obtain ⟨h1, us, T, hb, _⟩ := h.hp p _ (List.getElem?_eq_getElem hp)
  exact ⟨h1, (Array.getElem?_eq_some_iff.1 hb).1⟩
theorem Ok.tk_lt (h : Ok base J w0 st μ σ w) {t e : Nat} (ht : st.tk[t]? = some e) : base ≤ (σ t).g ∧ (σ t).g < w.heap.size := by
  obtain ⟨h1, ⟨us, T, hb, _⟩, _⟩ := h.tkt t e ht
  exact ⟨h1, (Array.getElem?_eq_some_iff.1 hb).1⟩
theorem Ok.base_le (h : Ok base J w0 st μ σ w) : base ≤ w.heap.size := Nat.le_trans h.bs.1 h.below.size
/-- the package's variables hold what they were laid -/
theorem Ok.laid (h : Ok base J w0 st μ σ w) : LaidW w := h.bs.2 w h.below
theorem Ok.laid' (h : Ok base J w0 st μ σ w) : ∀ w', Below w.heap.size w w' → LaidW w' := fun w' hw => h.bs.2 w' (h.below.trans (hw.mono h.base_le))

/-- nothing of the state turns: a world that differs elsewhere. -/
theorem Ok.step (h : Ok base J w0 st μ σ w) (hw : Below w.heap.size w w') : Ok base J w0 st μ σ w' ∧ Ext base J st μ σ w st μ σ w' := by
  have hx : Ext base J st μ σ w st μ σ w' := ⟨Nat.le_refl _, fun _ _ => rfl, fun _ e he => ⟨e, he, Nat.le_refl _, fun _ => rfl⟩, fun g x hi hg => ⟨hi, hw.cell (p := ⟨g, x, none⟩) hg⟩, hw.size⟩
  refine ⟨⟨h.bs, h.below.trans (hw.mono h.base_le), fun p cs hc => ?_, h.inj, fun t e ht => ?_⟩, hx⟩
  · obtain ⟨h1, us, T, hb, hl, hr⟩ := h.hp p cs hc
    refine ⟨h1, us, T, (hw.block _ (Array.getElem?_eq_some_iff.1 hb).1).trans hb, hl, fun j a u ha hu => ?_⟩
    obtain ⟨q1, q2, q3⟩ := hr j a u ha hu
    exact ⟨q1, q2, hx.at q3⟩
  · obtain ⟨h1, ⟨us, T, hb, h2, h3⟩, h4⟩ := h.tkt t e ht
    exact ⟨h1, ⟨us, T, (hw.block _ (Array.getElem?_eq_some_iff.1 hb).1).trans hb, h2, h3⟩, h4⟩
theorem below_alloc (w : World) (o : Obj) : Below w.heap.size w (w.alloc o) := (Below.refl _ _).alloc (Nat.le_refl _) o
theorem below_drew (w : World) : Below w.heap.size w w.drew := (Below.refl _ _).drew
theorem Ok.im_new (h : Ok base J w0 st μ σ w) {g : Nat} (hg : w.heap.size ≤ g) (x : Nat) : Im base J st μ σ g x := by
  refine ⟨fun hb => ?_, fun p hp => ?_, fun t e ht he => ?_⟩
  · have := h.base_le; omega
  · have := (h.mu_lt hp).2; omega
  · have := (h.tk_lt ht).2; omega

def upd {α : Type} (f : Nat → α) (p : Nat) (v : α) : Nat → α := fun q => if q = p then v else f q
theorem upd_same {α : Type} (f : Nat → α) (p : Nat) (v : α) : upd f p v p = v := by simp [upd]
theorem upd_ne {α : Type} (f : Nat → α) {p q : Nat} (v : α) (h : q ≠ p) : upd f p v q = f q := by simp [upd, h]

/-- a new variable -/
theorem Ok.newVar (h : Ok base J w0 st μ σ w) (cs : List AV) (us : Array Value) (T : TypeId) (hl : cs.length = us.size)
    (hr : ∀ (j : Nat) a u, cs[j]? = some a → us[j]? = some u → a.cell = true ∧ a.old st.heap.length = true ∧ At base J st μ σ w a u) :
    Ok base J w0 ⟨st.heap ++ [cs], st.tk⟩ (upd μ st.heap.length w.heap.size) σ (w.alloc (.cells us T)) ∧
    Ext base J st μ σ w ⟨st.heap ++ [cs], st.tk⟩ (upd μ st.heap.length w.heap.size) σ (w.alloc (.cells us T)) := by
  have hw := below_alloc w (.cells us T)
  have hmu : ∀ p, p < st.heap.length → upd μ st.heap.length w.heap.size p = μ p := fun p hp => upd_ne _ _ (by omega)
  have hx : Ext base J st μ σ w ⟨st.heap ++ [cs], st.tk⟩ (upd μ st.heap.length w.heap.size) σ (w.alloc (.cells us T)) := by
    refine ⟨by simp, hmu, fun _ e he => ⟨e, he, Nat.le_refl _, fun _ => rfl⟩, fun g x hi hg => ⟨⟨hi.1, fun p hp => ?_, hi.2.2⟩, hw.cell (p := ⟨g, x, none⟩) hg⟩, hw.size⟩
    simp only [List.length_append, List.length_singleton] at hp
    by_cases e : p = st.heap.length
    · subst e; rw [upd_same]; omega
    · rw [upd_ne _ _ e]; exact hi.2.1 p (by omega)
  refine ⟨⟨h.bs, h.below.trans (hw.mono h.base_le), fun p cs' hc => ?_, fun p q hp hq e => ?_, fun t e ht => ?_⟩, hx⟩
  · by_cases e : p = st.heap.length
    · subst e
      simp at hc
      subst hc
      rw [upd_same]
      refine ⟨h.base_le, us, T, heap_alloc_new w _, hl, fun j a u ha hu => ?_⟩
      obtain ⟨q1, q2, q3⟩ := hr j a u ha hu
      exact ⟨q1, q2, hx.at q3⟩
    · have hlt : p < st.heap.length := by
        have := (List.getElem?_eq_some_iff.1 hc).1
        simp at this
        omega
      simp only [List.getElem?_append_left hlt] at hc
      obtain ⟨h1, us', T', hb, hl', hr'⟩ := h.hp p cs' hc
      rw [hmu p hlt]
      refine ⟨h1, us', T', (hw.block _ (Array.getElem?_eq_some_iff.1 hb).1).trans hb, hl', fun j a u ha hu => ?_⟩
      obtain ⟨q1, q2, q3⟩ := hr' j a u ha hu
      exact ⟨q1, q2, hx.at q3⟩
  · simp only [List.length_append, List.length_singleton] at hp hq
    by_cases e1 : p = st.heap.length <;> by_cases e2 : q = st.heap.length
    · omega
    · rw [e1, upd_same, upd_ne _ _ e2] at e
      have := (h.mu_lt (show q < st.heap.length by omega)).2
      omega
    · rw [e2, upd_same, upd_ne _ _ e1] at e
      have := (h.mu_lt (show p < st.heap.length by omega)).2
      omega
    · rw [upd_ne _ _ e1, upd_ne _ _ e2] at e
      exact h.inj p q (by omega) (by omega) e
  · obtain ⟨h1, ⟨us', T', hb, h2, h3⟩, h4, h5⟩ := h.tkt t e ht
    refine ⟨h1, ⟨us', T', (hw.block _ (Array.getElem?_eq_some_iff.1 hb).1).trans hb, h2, h3⟩, fun p hp => ?_, h5⟩
    simp only [List.length_append, List.length_singleton] at hp
    by_cases e1 : p = st.heap.length
    · rw [e1, upd_same]
      have := (h.tk_lt ht).2
      omega
    · rw [upd_ne _ _ e1]; exact h4 p (by omega)

theorem setAll_length : ∀ (vs cs : List AV) (off : Nat), (setAll cs off vs).length = cs.length
  | [], _, _ => rfl
  | v :: vs, cs, off => by rw [setAll, setAll_length vs]; simp
theorem setAll_get : ∀ (vs cs : List AV) (off j : Nat), off + vs.length ≤ cs.length → (setAll cs off vs)[j]? = if off ≤ j ∧ j < off + vs.length then vs[j - off]? else cs[j]?
  | [], cs, off, j, _ => by
    rw [setAll, if_neg]
    intro ⟨h1, h2⟩
    have h3 : ([] : List AV).length = 0 := rfl
    omega
  | v :: vs, cs, off, j, h => by
    simp only [List.length_cons] at h
    rw [setAll, setAll_get vs _ _ _ (by simp; omega)]
    by_cases e : j = off
    · subst e
      rw [if_neg (by omega), if_pos (by simp), List.getElem?_set]
      simp
      omega
    · by_cases h1 : off + 1 ≤ j ∧ j < off + 1 + vs.length
      · rw [if_pos h1, if_pos (by simp; omega), show j - off = (j - (off + 1)) + 1 by omega, List.getElem?_cons_succ]
      · rw [if_neg h1, if_neg (by simp; omega), List.getElem?_set, if_neg (by omega)]

theorem cell_block {w : World} {b j : Nat} {us : Array Value} {T : TypeId} {fr : Nat × Nat} (h : w.heap[b]? = some (.cells us T fr)) : w.cell? ⟨b, j, none⟩ = us[j]? := by
  simp [World.cell?, h]
theorem heap_setCells {b : Nat} {T : TypeId} : ∀ (vs : List Value) (o : Nat) (w : World) (us : Array Value), w.heap[b]? = some (.cells us T (0, 0)) →
    ∃ us', (w.setCells b o vs).heap[b]? = some (.cells us' T (0, 0)) ∧ us'.size = us.size
  | [], _, w, us, h => ⟨us, h, rfl⟩
  | v :: vs, o, w, us, h => by
    have h1 : (w.setCell ⟨b, o, none⟩ v).heap[b]? = some (.cells (us.setIfInBounds o v) T (0, 0)) := by
      simp [World.setCell, Array.getElem?_modify, h]
    obtain ⟨us', h2, h3⟩ := heap_setCells vs (o + 1) _ _ h1
    exact ⟨us', h2, by rw [h3]; simp⟩
theorem below_setCells (w : World) (b o : Nat) (vs : List Value) : (w.setCells b o vs).os = w.os ∧ (w.setCells b o vs).tape = w.tape ∧ (w.setCells b o vs).output = w.output ∧ (w.setCells b o vs).heap.size = w.heap.size ∧ ∀ k, k ≠ b → (w.setCells b o vs).heap[k]? = w.heap[k]? := by
  induction vs generalizing o w with
  | nil => exact ⟨rfl, rfl, rfl, rfl, fun _ _ => rfl⟩
  | cons v vs ih =>
    obtain ⟨h1, h2, h3, h4, h5⟩ := ih (w.setCell ⟨b, o, none⟩ v) (o + 1)
    refine ⟨h1, h2, h3, by rw [World.setCells, h4]; simp, fun k hk => ?_⟩
    rw [World.setCells, h5 k hk, Below.heap_setCell _ _ _ _ hk]

/-- a store into a variable -/
theorem Ok.store (h : Ok base J w0 st μ σ w) {p off : Nat} {cs vs : List AV} {us : List Value} (hc : st.heap[p]? = some cs) (hl : vs.length = us.length) (hle : off + vs.length ≤ cs.length)
    (hr : ∀ (j : Nat) a u, vs[j]? = some a → us[j]? = some u → a.cell = true ∧ a.old p = true ∧ At base J st μ σ w a u) :
    Ok base J w0 ⟨st.heap.set p (setAll cs off vs), st.tk⟩ μ σ (w.setCells (μ p) off us) ∧
    Ext base J st μ σ w ⟨st.heap.set p (setAll cs off vs), st.tk⟩ μ σ (w.setCells (μ p) off us) := by
  have hp : p < st.heap.length := (List.getElem?_eq_some_iff.1 hc).1
  obtain ⟨b1, us0, T, hb, hlen, hr0⟩ := h.hp p cs hc
  obtain ⟨s1, s2, s3, s4, s5⟩ := below_setCells w (μ p) off us
  obtain ⟨us1, hb1, hsz1⟩ := heap_setCells us off w us0 hb
  have hcells : ∀ j, j < us.length → (w.cell? ⟨μ p, off + j, none⟩).isSome = true := fun j hj => by rw [cell_block hb, Array.getElem?_eq_getElem (by omega)]; rfl
  have hbw : Below base w (w.setCells (μ p) off us) := ⟨s1, s2, s3, by omega, fun k hk => s5 k (by omega)⟩
  have hx : Ext base J st μ σ w ⟨st.heap.set p (setAll cs off vs), st.tk⟩ μ σ (w.setCells (μ p) off us) := by
    refine ⟨by simp, fun _ _ => rfl, fun _ e he => ⟨e, he, Nat.le_refl _, fun _ => rfl⟩, fun g x hi hg => ⟨⟨hi.1, fun q hq => hi.2.1 q (by simpa using hq), hi.2.2⟩, ?_⟩, by omega⟩
    have hne : g ≠ μ p := fun e => hi.2.1 p hp e.symm
    exact World.cell?_of_block (a := ⟨g, x, none⟩) (s5 g hne)
  refine ⟨⟨h.bs, h.below.trans hbw, fun q cs' hq => ?_, fun q r hq hr e => h.inj q r (by simpa using hq) (by simpa using hr) e, fun t e ht => ?_⟩, hx⟩
  · by_cases e : q = p
    · subst e
      rw [List.getElem?_set] at hq
      simp only [if_true, hp] at hq
      cases hq
      refine ⟨b1, us1, T, hb1, by rw [setAll_length]; omega, fun j a u ha hu => ?_⟩
      rw [setAll_get _ _ _ _ hle] at ha
      rw [← cell_block hb1] at hu
      by_cases hj : off ≤ j ∧ j < off + vs.length
      · rw [if_pos hj] at ha
        have hin := World.cell?_setCells_in (μ q) us off w hcells (j - off) (by omega)
        rw [show off + (j - off) = j by omega] at hin
        rw [hin] at hu
        obtain ⟨q1, q2, q3⟩ := hr (j - off) a u ha (by rw [← hu, List.getElem?_eq_getElem])
        exact ⟨q1, q2, hx.at q3⟩
      · rw [if_neg hj] at ha
        rw [World.cell?_setCells_out (μ q) us off w ⟨μ q, j, none⟩ (fun _ _ => by simp; omega), cell_block hb] at hu
        obtain ⟨q1, q2, q3⟩ := hr0 j a u ha hu
        exact ⟨q1, q2, hx.at q3⟩
    · rw [List.getElem?_set, if_neg (Ne.symm e)] at hq
      have hq' : q < st.heap.length := (List.getElem?_eq_some_iff.1 hq).1
      obtain ⟨h1, us', T', hb', hl', hr'⟩ := h.hp q cs' hq
      refine ⟨h1, us', T', (s5 _ (fun ee => e (h.inj q p hq' hp ee))).trans hb', hl', fun j a u ha hu => ?_⟩
      obtain ⟨q1, q2, q3⟩ := hr' j a u ha hu
      exact ⟨q1, q2, hx.at q3⟩
  · obtain ⟨h1, ⟨us', T', hb', h2, h3⟩, h4, h5⟩ := h.tkt t e ht
    exact ⟨h1, ⟨us', T', (s5 _ (fun ee => h4 p hp ee.symm)).trans hb', h2, h3⟩, fun q hq => h4 q (by simpa using hq), h5⟩

/-- a new ticket, over a new block -/
theorem Ok.newTk (h : Ok base J w0 st μ σ w) (us : Array Value) (T : TypeId) (n endc capc : Nat) (h1 : endc ≤ capc) (h2 : capc ≤ us.size) (wd : World) (hd : wd = w ∨ wd = w.drew) :
    Ok base J w0 ⟨st.heap, st.tk ++ [n]⟩ μ (upd σ st.tk.length ⟨w.heap.size, endc, capc⟩) (wd.alloc (.cells us T)) ∧
    Ext base J st μ σ w ⟨st.heap, st.tk ++ [n]⟩ μ (upd σ st.tk.length ⟨w.heap.size, endc, capc⟩) (wd.alloc (.cells us T)) := by
  have hws : wd.heap.size = w.heap.size := by rcases hd with rfl | rfl <;> rfl
  have hw : Below w.heap.size w (wd.alloc (.cells us T)) := by
    rcases hd with rfl | rfl
    · exact below_alloc _ _
    · exact (below_drew w).alloc (by simp) _
  have hsg : ∀ t e, st.tk[t]? = some e → upd σ st.tk.length ⟨w.heap.size, endc, capc⟩ t = σ t := fun t e ht => upd_ne _ _ (by have := (List.getElem?_eq_some_iff.1 ht).1; omega)
  have hcase : ∀ t e, (st.tk ++ [n])[t]? = some e → st.tk[t]? = some e ∨ (t = st.tk.length ∧ e = n) := fun t e ht => by
    by_cases hlt : t < st.tk.length
    · rw [List.getElem?_append_left hlt] at ht; exact .inl ht
    · rw [List.getElem?_append_right (by omega)] at ht
      have : t - st.tk.length = 0 := by
        have := (List.getElem?_eq_some_iff.1 ht).1
        simp at this
        omega
      rw [this] at ht
      simp at ht
      exact .inr ⟨by omega, ht.symm⟩
  have hx : Ext base J st μ σ w ⟨st.heap, st.tk ++ [n]⟩ μ (upd σ st.tk.length ⟨w.heap.size, endc, capc⟩) (wd.alloc (.cells us T)) := by
    refine ⟨Nat.le_refl _, fun _ _ => rfl, fun t e he => ⟨e, ?_, Nat.le_refl _, fun _ => hsg t e he⟩, fun g x hi hg => ⟨⟨hi.1, hi.2.1, fun t e ht hg' => ?_⟩, hw.cell (p := ⟨g, x, none⟩) hg⟩, hw.size⟩
    · rw [List.getElem?_append_left (List.getElem?_eq_some_iff.1 he).1]; exact he
    · rcases hcase t e ht with ht' | ⟨rfl, rfl⟩
      · rw [hsg t e ht'] at hg' ⊢; exact hi.2.2 t e ht' hg'
      · rw [upd_same] at hg'; simp at hg'; omega
  refine ⟨⟨h.bs, h.below.trans (hw.mono h.base_le), fun p cs hc => ?_, h.inj, fun t e ht => ?_⟩, hx⟩
  · obtain ⟨q1, us', T', hb, hl, hr⟩ := h.hp p cs hc
    refine ⟨q1, us', T', (hw.block _ (Array.getElem?_eq_some_iff.1 hb).1).trans hb, hl, fun j a u ha hu => ?_⟩
    obtain ⟨r1, r2, r3⟩ := hr j a u ha hu
    exact ⟨r1, r2, hx.at r3⟩
  · rcases hcase t e ht with ht' | ⟨rfl, rfl⟩
    · obtain ⟨q1, ⟨us', T', hb, q2, q3⟩, q4, q5⟩ := h.tkt t e ht'
      rw [hsg t e ht']
      refine ⟨q1, ⟨us', T', (hw.block _ (Array.getElem?_eq_some_iff.1 hb).1).trans hb, q2, q3⟩, q4, fun t' e' ht'' hg => ?_⟩
      rcases hcase t' e' ht'' with h' | ⟨rfl, rfl⟩
      · rw [hsg t' e' h'] at hg; exact q5 t' e' h' hg
      · rw [upd_same] at hg
        have := (h.tk_lt ht').2
        simp at hg
        omega
    · rw [upd_same]
      refine ⟨h.base_le, ⟨us, T, ?_, h2, h1⟩, fun p hp => ?_, fun t' e' ht'' hg => ?_⟩
      · show (wd.alloc (.cells us T)).heap[w.heap.size]? = _
        rw [← hws]; exact heap_alloc_new wd _
      · have := (h.mu_lt hp).2
        simp
        omega
      · rcases hcase t' e' ht'' with h' | ⟨rfl, rfl⟩
        · rw [hsg t' e' h'] at hg
          have := (h.tk_lt h').2
          simp at hg
          omega
        · rfl

/-- the ticket's slice has gone to a new block -/
theorem Ok.moveTk (h : Ok base J w0 st μ σ w) {t e : Nat} (ht : st.tk[t]? = some e) (us : Array Value) (T : TypeId) (n endc capc : Nat) (hn : e < n) (h1 : endc ≤ capc) (h2 : capc ≤ us.size) :
    Ok base J w0 ⟨st.heap, st.tk.set t n⟩ μ (upd σ t ⟨w.heap.size, endc, capc⟩) (w.drew.alloc (.cells us T)) ∧
    Ext base J st μ σ w ⟨st.heap, st.tk.set t n⟩ μ (upd σ t ⟨w.heap.size, endc, capc⟩) (w.drew.alloc (.cells us T)) := by
  have htl : t < st.tk.length := (List.getElem?_eq_some_iff.1 ht).1
  have hw : Below w.heap.size w (w.drew.alloc (.cells us T)) := (below_drew w).alloc (by simp) _
  have hcase : ∀ t' e', (st.tk.set t n)[t']? = some e' → (t' ≠ t ∧ st.tk[t']? = some e' ∧ upd σ t ⟨w.heap.size, endc, capc⟩ t' = σ t') ∨ (t' = t ∧ e' = n) := fun t' e' h' => by
    rw [List.getElem?_set] at h'
    by_cases ee : t = t'
    · subst ee
      simp only [if_true, htl] at h'
      cases h'
      exact .inr ⟨rfl, rfl⟩
    · rw [if_neg ee] at h'
      exact .inl ⟨Ne.symm ee, h', upd_ne _ _ (Ne.symm ee)⟩
  have hx : Ext base J st μ σ w ⟨st.heap, st.tk.set t n⟩ μ (upd σ t ⟨w.heap.size, endc, capc⟩) (w.drew.alloc (.cells us T)) := by
    refine ⟨Nat.le_refl _, fun _ _ => rfl, fun t' e' he => ?_, fun g x hi hg => ⟨⟨hi.1, hi.2.1, fun t' e' h' hg' => ?_⟩, hw.cell (p := ⟨g, x, none⟩) hg⟩, hw.size⟩
    · by_cases ee : t' = t
      · subst ee
        rw [ht] at he
        cases he
        exact ⟨n, by simp [htl], by omega, fun e => by omega⟩
      · exact ⟨e', by rw [List.getElem?_set, if_neg (Ne.symm ee)]; exact he, Nat.le_refl _, fun _ => upd_ne _ _ ee⟩
    · rcases hcase t' e' h' with ⟨q1, q2, q3⟩ | ⟨rfl, rfl⟩
      · rw [q3] at hg' ⊢; exact hi.2.2 t' e' q2 hg'
      · rw [upd_same] at hg'; simp at hg'; omega
  refine ⟨⟨h.bs, h.below.trans (hw.mono h.base_le), fun p cs hc => ?_, h.inj, fun t' e' ht' => ?_⟩, hx⟩
  · obtain ⟨q1, us', T', hb, hl, hr⟩ := h.hp p cs hc
    refine ⟨q1, us', T', (hw.block _ (Array.getElem?_eq_some_iff.1 hb).1).trans hb, hl, fun j a u ha hu => ?_⟩
    obtain ⟨r1, r2, r3⟩ := hr j a u ha hu
    exact ⟨r1, r2, hx.at r3⟩
  · rcases hcase t' e' ht' with ⟨q1, q2, q3⟩ | ⟨rfl, rfl⟩
    · obtain ⟨r1, ⟨us', T', hb, r2, r3⟩, r4, r5⟩ := h.tkt t' e' q2
      rw [q3]
      refine ⟨r1, ⟨us', T', (hw.block _ (Array.getElem?_eq_some_iff.1 hb).1).trans hb, r2, r3⟩, r4, fun t2 e2 ht2 hg => ?_⟩
      rcases hcase t2 e2 ht2 with ⟨s1, s2, s3⟩ | ⟨rfl, rfl⟩
      · rw [s3] at hg; exact r5 t2 e2 s2 hg
      · rw [upd_same] at hg
        have := (h.tk_lt q2).2
        simp at hg
        omega
    · rw [upd_same]
      refine ⟨h.base_le, ⟨us, T, heap_alloc_new w.drew _, h2, h1⟩, fun p hp => ?_, fun t2 e2 ht2 hg => ?_⟩
      · have := (h.mu_lt hp).2
        simp
        omega
      · rcases hcase t2 e2 ht2 with ⟨s1, s2, s3⟩ | ⟨rfl, rfl⟩
        · rw [s3] at hg
          have := (h.tk_lt s2).2
          simp at hg
          omega
        · rfl

/-- the ticket's slice has grown where it is -/
theorem Ok.growTk (h : Ok base J w0 st μ σ w) {t e : Nat} (ht : st.tk[t]? = some e) (vs : List Value) (n : Nat) (hn : e < n) (hroom : (σ t).endc + vs.length ≤ (σ t).capc) :
    Ok base J w0 ⟨st.heap, st.tk.set t n⟩ μ (upd σ t ⟨(σ t).g, (σ t).endc + vs.length, (σ t).capc⟩) (w.setCells (σ t).g (σ t).endc vs) ∧
    Ext base J st μ σ w ⟨st.heap, st.tk.set t n⟩ μ (upd σ t ⟨(σ t).g, (σ t).endc + vs.length, (σ t).capc⟩) (w.setCells (σ t).g (σ t).endc vs) := by
  have htl : t < st.tk.length := (List.getElem?_eq_some_iff.1 ht).1
  obtain ⟨b1, ⟨us0, T, hb, b2, b3⟩, b4, b5⟩ := h.tkt t e ht
  obtain ⟨s1, s2, s3, s4, s5⟩ := below_setCells w (σ t).g (σ t).endc vs
  obtain ⟨us1, hb1, hsz1⟩ := heap_setCells vs (σ t).endc w us0 hb
  have hbw : Below base w (w.setCells (σ t).g (σ t).endc vs) := ⟨s1, s2, s3, by omega, fun k hk => s5 k (by omega)⟩
  have hcase : ∀ t' e', (st.tk.set t n)[t']? = some e' → (t' ≠ t ∧ st.tk[t']? = some e' ∧ upd σ t ⟨(σ t).g, (σ t).endc + vs.length, (σ t).capc⟩ t' = σ t') ∨ (t' = t ∧ e' = n) := fun t' e' h' => by
    rw [List.getElem?_set] at h'
    by_cases ee : t = t'
    · subst ee
      simp only [if_true, htl] at h'
      cases h'
      exact .inr ⟨rfl, rfl⟩
    · rw [if_neg ee] at h'
      exact .inl ⟨Ne.symm ee, h', upd_ne _ _ (Ne.symm ee)⟩
  have hx : Ext base J st μ σ w ⟨st.heap, st.tk.set t n⟩ μ (upd σ t ⟨(σ t).g, (σ t).endc + vs.length, (σ t).capc⟩) (w.setCells (σ t).g (σ t).endc vs) := by
    refine ⟨Nat.le_refl _, fun _ _ => rfl, fun t' e' he => ?_, fun g x hi hg => ⟨⟨hi.1, hi.2.1, fun t' e' h' hg' => ?_⟩, ?_⟩, by omega⟩
    · by_cases ee : t' = t
      · subst ee
        rw [ht] at he
        cases he
        exact ⟨n, by simp [htl], by omega, fun e => by omega⟩
      · exact ⟨e', by rw [List.getElem?_set, if_neg (Ne.symm ee)]; exact he, Nat.le_refl _, fun _ => upd_ne _ _ ee⟩
    · rcases hcase t' e' h' with ⟨q1, q2, q3⟩ | ⟨rfl, rfl⟩
      · rw [q3] at hg' ⊢; exact hi.2.2 t' e' q2 hg'
      · rw [upd_same] at hg' ⊢
        have := hi.2.2 t' e ht hg'
        simp
        omega
    · by_cases hgg : g = (σ t).g
      · subst hgg
        have := hi.2.2 t e ht rfl
        exact World.cell?_setCells_out (σ t).g vs (σ t).endc w ⟨(σ t).g, x, none⟩ (fun _ _ => .inl this)
      · exact World.cell?_of_block (a := ⟨g, x, none⟩) (s5 g hgg)
  refine ⟨⟨h.bs, h.below.trans hbw, fun p cs hc => ?_, h.inj, fun t' e' ht' => ?_⟩, hx⟩
  · have hp : p < st.heap.length := (List.getElem?_eq_some_iff.1 hc).1
    obtain ⟨q1, us', T', hb', hl, hr⟩ := h.hp p cs hc
    refine ⟨q1, us', T', (s5 _ (b4 p hp)).trans hb', hl, fun j a u ha hu => ?_⟩
    obtain ⟨r1, r2, r3⟩ := hr j a u ha hu
    exact ⟨r1, r2, hx.at r3⟩
  · rcases hcase t' e' ht' with ⟨q1, q2, q3⟩ | ⟨rfl, rfl⟩
    · obtain ⟨r1, ⟨us', T', hb', r2, r3⟩, r4, r5⟩ := h.tkt t' e' q2
      rw [q3]
      have hne : (σ t').g ≠ (σ t).g := fun ee => q1 (r5 t e ht ee)
      refine ⟨r1, ⟨us', T', (s5 _ hne).trans hb', r2, r3⟩, r4, fun t2 e2 ht2 hg => ?_⟩
      rcases hcase t2 e2 ht2 with ⟨s1, s2, s3⟩ | ⟨rfl, rfl⟩
      · rw [s3] at hg; exact r5 t2 e2 s2 hg
      · rw [upd_same] at hg; exact absurd hg hne
    · rw [upd_same]
      refine ⟨b1, ⟨us1, T, hb1, by simp; omega, by simp; omega⟩, b4, fun t2 e2 ht2 hg => ?_⟩
      rcases hcase t2 e2 ht2 with ⟨s1, s2, s3⟩ | ⟨rfl, rfl⟩
      · rw [s3] at hg; exact b5 t2 e2 s2 hg
      · rfl
end
end Go.Proofs.YtfhodppaelfcfaaDoor
