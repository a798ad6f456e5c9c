/- States and worlds: what a new block, a store, a draw, an append do to them. No statement of its own. -/
import Derived.Test.YticbonkojpabnaaGreatDoorRVx
set_option linter.unusedSimpArgs false
set_option linter.unusedVariables false
set_option maxRecDepth 100000
namespace Go.Proofs.YticbonkojpabnaaGreatDoor
open Go.RowKit

section
variable {base : Nat} {J : Nat -> Nat -> Prop} {w0 : World} {st : St} {μ : Nat -> Nat} {σ : Nat -> Tkt} {w w' : World}

theorem Ok.mu_lt (h : Ok base J w0 st μ σ w) {p : Nat} (hp : p < st.heap.length) : base <= μ p /\ μ p < w.heap.size := by
 obtain ⟨h1, us, T, hb, _⟩ := h.hp p _ (List.getElem?_eq_getElem hp)
 exact ⟨h1, (Array.getElem?_eq_some_iff.1 hb).1⟩
theorem Ok.tk_lt (h : Ok base J w0 st μ σ w) {t e : Nat} (ht : st.tk[t]? = some e) : base <= (σ t).g /\ (σ t).g < w.heap.size := by
 obtain ⟨h1, ⟨us, T, hb, _⟩, _⟩ := h.tkt t e ht
 exact ⟨h1, (Array.getElem?_eq_some_iff.1 hb).1⟩
theorem Ok.base_le (h : Ok base J w0 st μ σ w) : base <= w.heap.size := Nat.le_trans h.bs.1 h.below.size
/-- the package's variables hold what they were laid -/
theorem Ok.laid (h : Ok base J w0 st μ σ w) : LaidW w := h.bs.2 w h.below
theorem Ok.laid' (h : Ok base J w0 st μ σ w) : ∀ w', Below w.heap.size w w' -> LaidW w' := fun w' hw => h.bs.2 w' (h.below.trans (hw.mono h.base_le))

/-- nothing of the state turns: a world that differs elsewhere. -/
theorem Ok.step (h : Ok base J w0 st μ σ w) (hw : Below w.heap.size w w') : Ok base J w0 st μ σ w' /\ Ext base J st μ σ w st μ σ w' := by
 have hx : Ext base J st μ σ w st μ σ w' := ⟨Nat.le_refl _, fun _ _ => rfl, fun _ e he => ⟨e, he, Nat.le_refl _, fun _ => rfl⟩, fun g x hi hg => ⟨hi, hw.cell (p := ⟨g, x, none⟩) hg⟩, hw.size⟩
 refine ⟨⟨h.bs, h.below.trans (hw.mono h.base_le), fun p cs hc => ?_, h.inj, fun t e ht => ?_⟩, hx⟩
 ·obtain ⟨h1, us, T, hb, hl, hr⟩ := h.hp p cs hc
  refine ⟨h1, us, T, (hw.block _ (Array.getElem?_eq_some_iff.1 hb).1).trans hb, hl, fun j a u ha hu => ?_⟩
  obtain ⟨q1, q2, q3⟩ := hr j a u ha hu
  exact ⟨q1, q2, hx.at q3⟩
 ·obtain ⟨h1, ⟨us, T, hb, h2, h3⟩, h4⟩ := h.tkt t e ht
  exact ⟨h1, ⟨us, T, (hw.block _ (Array.getElem?_eq_some_iff.1 hb).1).trans hb, h2, h3⟩, h4⟩
theorem below_alloc (w : World) (o : Obj) : Below w.heap.size w (w.alloc o) := (Below.refl _ _).alloc (Nat.le_refl _) o
theorem below_drew (w : World) : Below w.heap.size w w.drew := (Below.refl _ _).drew
theorem Ok.im_new (h : Ok base J w0 st μ σ w) {g : Nat} (hg : w.heap.size <= g) (x : Nat) : Im base J st μ σ g x := by
 refine ⟨fun hb => ?_, fun p hp => ?_, fun t e ht he => ?_⟩
 ·have := h.base_le; omega
 ·have := (h.mu_lt hp).2; omega
 ·have := (h.tk_lt ht).2; omega

def upd {α : Type} (f : Nat -> α) (p : Nat) (v : α) : Nat -> α := fun q => if q = p then v else f q
theorem upd_same {α : Type} (f : Nat -> α) (p : Nat) (v : α) : upd f p v p = v := by simp [upd]
theorem upd_ne {α : Type} (f : Nat -> α) {p q : Nat} (v : α) (h : q ≠ p) : upd f p v q = f q := by simp [upd, h]

/-- a new variable -/
theorem Ok.newVar (h : Ok base J w0 st μ σ w) (cs : List AV) (us : Array Value) (T : TypeId) (hl : cs.length = us.size)
  (hr : ∀ (j : Nat) a u, cs[j]? = some a -> us[j]? = some u -> a.cell = true /\ a.old st.heap.length = true /\ At base J st μ σ w a u) :
  Ok base J w0 ⟨st.heap ++ [cs], st.tk⟩ (upd μ st.heap.length w.heap.size) σ (w.alloc (.cells us T)) /\
  Ext base J st μ σ w ⟨st.heap ++ [cs], st.tk⟩ (upd μ st.heap.length w.heap.size) σ (w.alloc (.cells us T)) := by
 have hw := below_alloc w (.cells us T)
 have hmu : ∀ p, p < st.heap.length -> upd μ st.heap.length w.heap.size p = μ p := fun p hp => upd_ne _ _ (by omega)
 have hx : Ext base J st μ σ w ⟨st.heap ++ [cs], st.tk⟩ (upd μ st.heap.length w.heap.size) σ (w.alloc (.cells us T)) := by
  refine ⟨by simp, hmu, fun _ e he => ⟨e, he, Nat.le_refl _, fun _ => rfl⟩, fun g x hi hg => ⟨⟨hi.1, fun p hp => ?_, hi.2.2⟩, hw.cell (p := ⟨g, x, none⟩) hg⟩, hw.size⟩
  simp only [List.length_append, List.length_singleton] at hp
  by_cases e : p = st.heap.length
  ·subst e; rw [upd_same]; omega
  ·rw [upd_ne _ _ e]; exact hi.2.1 p (by omega)
 refine ⟨⟨h.bs, h.below.trans (hw.mono h.base_le), fun p cs' hc => ?_, fun p q hp hq e => ?_, fun t e ht => ?_⟩, hx⟩
 ·by_cases e : p = st.heap.length
  ·subst e
   simp at hc
   subst hc
   rw [upd_same]
   refine ⟨h.base_le, us, T, heap_alloc_new w _, hl, fun j a u ha hu => ?_⟩
   obtain ⟨q1, q2, q3⟩ := hr j a u ha hu
   exact ⟨q1, q2, hx.at q3⟩
  ·have hlt : p < st.heap.length := by
    have := (List.getElem?_eq_some_iff.1 hc).1
    simp at this
    omega
   simp only [List.getElem?_append_left hlt] at hc
   obtain ⟨h1, us', T', hb, hl', hr'⟩ := h.hp p cs' hc
   rw [hmu p hlt]
   refine ⟨h1, us', T', (hw.block _ (Array.getElem?_eq_some_iff.1 hb).1).trans hb, hl', fun j a u ha hu => ?_⟩
   obtain ⟨q1, q2, q3⟩ := hr' j a u ha hu
   exact ⟨q1, q2, hx.at q3⟩
 ·simp only [List.length_append, List.length_singleton] at hp hq
  by_cases e1 : p = st.heap.length <;> by_cases e2 : q = st.heap.length
  ·omega
  ·rw [e1, upd_same, upd_ne _ _ e2] at e
   have := (h.mu_lt (show q < st.heap.length by omega)).2
   omega
  ·rw [e2, upd_same, upd_ne _ _ e1] at e
   have := (h.mu_lt (show p < st.heap.length by omega)).2
   omega
  ·rw [upd_ne _ _ e1, upd_ne _ _ e2] at e
   exact h.inj p q (by omega) (by omega) e
 ·obtain ⟨h1, ⟨us', T', hb, h2, h3⟩, h4, h5⟩ := h.tkt t e ht
  refine ⟨h1, ⟨us', T', (hw.block _ (Array.getElem?_eq_some_iff.1 hb).1).trans hb, h2, h3⟩, fun p hp => ?_, h5⟩
  simp only [List.length_append, List.length_singleton] at hp
  by_cases e1 : p = st.heap.length
  ·rw [e1, upd_same]
   have := (h.tk_lt ht).2
   omega
  ·rw [upd_ne _ _ e1]; exact h4 p (by omega)

theorem setAll_length : ∀ (vs cs : List AV) (off : Nat), (setAll cs off vs).length = cs.length
 | [], _, _ => rfl
 | v :: vs, cs, off => by rw [setAll, setAll_length vs]; simp
theorem setAll_get : ∀ (vs cs : List AV) (off j : Nat), off + vs.length <= cs.length -> (setAll cs off vs)[j]? = if off <= j /\ j < off + vs.length then vs[j - off]? else cs[j]?
 | [], cs, off, j, _ => by
  rw [setAll, if_neg]
  intro ⟨h1, h2⟩
  have h3 : ([] : List AV).length = 0 := rfl
  omega
 | v :: vs, cs, off, j, h => by
  simp only [List.length_cons] at h
  rw [setAll, setAll_get vs _ _ _ (by simp; omega)]
  by_cases e : j = off
  ·subst e
   rw [if_neg (by omega), if_pos (by simp), List.getElem?_set]
   simp
   omega
  ·by_cases h1 : off + 1 <= j /\ j < off + 1 + vs.length
   ·rw [if_pos h1, if_pos (by simp; omega), show j - off = (j - (off + 1)) + 1 by omega, List.getElem?_cons_succ]
   ·rw [if_neg h1, if_neg (by simp; omega), List.getElem?_set, if_neg (by omega)]

theorem cell_block {w : World} {b j : Nat} {us : Array Value} {T : TypeId} {fr : Nat × Nat} (h : w.heap[b]? = some (.cells us T fr)) : w.cell? ⟨b, j, none⟩ = us[j]? := by
 simp [World.cell?, h]
theorem heap_setCells {b : Nat} {T : TypeId} : ∀ (vs : List Value) (o : Nat) (w : World) (us : Array Value), w.heap[b]? = some (.cells us T (0, 0)) ->
  ∃ us', (w.setCells b o vs).heap[b]? = some (.cells us' T (0, 0)) /\ us'.size = us.size
 | [], _, w, us, h => ⟨us, h, rfl⟩
 | v :: vs, o, w, us, h => by
  have h1 : (w.setCell ⟨b, o, none⟩ v).heap[b]? = some (.cells (us.setIfInBounds o v) T (0, 0)) := by
   simp [World.setCell, Array.getElem?_modify, h]
  obtain ⟨us', h2, h3⟩ := heap_setCells vs (o + 1) _ _ h1
  exact ⟨us', h2, by rw [h3]; simp⟩
theorem below_setCells (w : World) (b o : Nat) (vs : List Value) : (w.setCells b o vs).os = w.os /\ (w.setCells b o vs).tape = w.tape /\ (w.setCells b o vs).output = w.output /\ (w.setCells b o vs).heap.size = w.heap.size /\ ∀ k, k ≠ b -> (w.setCells b o vs).heap[k]? = w.heap[k]? := by
 induction vs generalizing o w with
 | nil => exact ⟨rfl, rfl, rfl, rfl, fun _ _ => rfl⟩
 | cons v vs ih =>
  obtain ⟨h1, h2, h3, h4, h5⟩ := ih (w.setCell ⟨b, o, none⟩ v) (o + 1)
  refine ⟨h1, h2, h3, by rw [World.setCells, h4]; simp, fun k hk => ?_⟩
  rw [World.setCells, h5 k hk, Below.heap_setCell _ _ _ _ hk]

/-- a store into a variable -/
theorem Ok.store (h : Ok base J w0 st μ σ w) {p off : Nat} {cs vs : List AV} {us : List Value} (hc : st.heap[p]? = some cs) (hl : vs.length = us.length) (hle : off + vs.length <= cs.length)
  (hr : ∀ (j : Nat) a u, vs[j]? = some a -> us[j]? = some u -> a.cell = true /\ a.old p = true /\ At base J st μ σ w a u) :
  Ok base J w0 ⟨st.heap.set p (setAll cs off vs), st.tk⟩ μ σ (w.setCells (μ p) off us) /\
  Ext base J st μ σ w ⟨st.heap.set p (setAll cs off vs), st.tk⟩ μ σ (w.setCells (μ p) off us) := by
 have hp : p < st.heap.length := (List.getElem?_eq_some_iff.1 hc).1
 obtain ⟨b1, us0, T, hb, hlen, hr0⟩ := h.hp p cs hc
 obtain ⟨s1, s2, s3, s4, s5⟩ := below_setCells w (μ p) off us
 obtain ⟨us1, hb1, hsz1⟩ := heap_setCells us off w us0 hb
 have hcells : ∀ j, j < us.length -> (w.cell? ⟨μ p, off + j, none⟩).isSome = true := fun j hj => by rw [cell_block hb, Array.getElem?_eq_getElem (by omega)]; rfl
 have hbw : Below base w (w.setCells (μ p) off us) := ⟨s1, s2, s3, by omega, fun k hk => s5 k (by omega)⟩
 have hx : Ext base J st μ σ w ⟨st.heap.set p (setAll cs off vs), st.tk⟩ μ σ (w.setCells (μ p) off us) := by
  refine ⟨by simp, fun _ _ => rfl, fun _ e he => ⟨e, he, Nat.le_refl _, fun _ => rfl⟩, fun g x hi hg => ⟨⟨hi.1, fun q hq => hi.2.1 q (by simpa using hq), hi.2.2⟩, ?_⟩, by omega⟩
  have hne : g ≠ μ p := fun e => hi.2.1 p hp e.symm
  exact World.cell?_of_block (a := ⟨g, x, none⟩) (s5 g hne)
 refine ⟨⟨h.bs, h.below.trans hbw, fun q cs' hq => ?_, fun q r hq hr e => h.inj q r (by simpa using hq) (by simpa using hr) e, fun t e ht => ?_⟩, hx⟩
 ·by_cases e : q = p
  ·subst e
   rw [List.getElem?_set] at hq
   simp only [if_true, hp] at hq
   cases hq
   refine ⟨b1, us1, T, hb1, by rw [setAll_length]; omega, fun j a u ha hu => ?_⟩
   rw [setAll_get _ _ _ _ hle] at ha
   rw [<- cell_block hb1] at hu
   by_cases hj : off <= j /\ j < off + vs.length
   ·rw [if_pos hj] at ha
    have hin := World.cell?_setCells_in (μ q) us off w hcells (j - off) (by omega)
    rw [show off + (j - off) = j by omega] at hin
    rw [hin] at hu
    obtain ⟨q1, q2, q3⟩ := hr (j - off) a u ha (by rw [<- hu, List.getElem?_eq_getElem])
    exact ⟨q1, q2, hx.at q3⟩
   ·rw [if_neg hj] at ha
    rw [World.cell?_setCells_out (μ q) us off w ⟨μ q, j, none⟩ (fun _ _ => by simp; omega), cell_block hb] at hu
    obtain ⟨q1, q2, q3⟩ := hr0 j a u ha hu
    exact ⟨q1, q2, hx.at q3⟩
  ·rw [List.getElem?_set, if_neg (Ne.symm e)] at hq
   have hq' : q < st.heap.length := (List.getElem?_eq_some_iff.1 hq).1
   obtain ⟨h1, us', T', hb', hl', hr'⟩ := h.hp q cs' hq
   refine ⟨h1, us', T', (s5 _ (fun ee => e (h.inj q p hq' hp ee))).trans hb', hl', fun j a u ha hu => ?_⟩
   obtain ⟨q1, q2, q3⟩ := hr' j a u ha hu
   exact ⟨q1, q2, hx.at q3⟩
 ·obtain ⟨h1, ⟨us', T', hb', h2, h3⟩, h4, h5⟩ := h.tkt t e ht
  exact ⟨h1, ⟨us', T', (s5 _ (fun ee => h4 p hp ee.symm)).trans hb', h2, h3⟩, fun q hq => h4 q (by simpa using hq), h5⟩

/-- a new ticket, over a new block -/
theorem Ok.newTk (h : Ok base J w0 st μ σ w) (us : Array Value) (T : TypeId) (n endc capc : Nat) (h1 : endc <= capc) (h2 : capc <= us.size) (wd : World) (hd : wd = w \/ wd = w.drew) :
  Ok base J w0 ⟨st.heap, st.tk ++ [n]⟩ μ (upd σ st.tk.length ⟨w.heap.size, endc, capc⟩) (wd.alloc (.cells us T)) /\
  Ext base J st μ σ w ⟨st.heap, st.tk ++ [n]⟩ μ (upd σ st.tk.length ⟨w.heap.size, endc, capc⟩) (wd.alloc (.cells us T)) := by
 have hws : wd.heap.size = w.heap.size := by rcases hd with rfl | rfl <;> rfl
 have hw : Below w.heap.size w (wd.alloc (.cells us T)) := by
  rcases hd with rfl | rfl
  ·exact below_alloc _ _
  ·exact (below_drew w).alloc (by simp) _
 have hsg : ∀ t e, st.tk[t]? = some e -> upd σ st.tk.length ⟨w.heap.size, endc, capc⟩ t = σ t := fun t e ht => upd_ne _ _ (by have := (List.getElem?_eq_some_iff.1 ht).1; omega)
 have hcase : ∀ t e, (st.tk ++ [n])[t]? = some e -> st.tk[t]? = some e \/ (t = st.tk.length /\ e = n) := fun t e ht => by
  by_cases hlt : t < st.tk.length
  ·rw [List.getElem?_append_left hlt] at ht; exact .inl ht
  ·rw [List.getElem?_append_right (by omega)] at ht
   have : t - st.tk.length = 0 := by
    have := (List.getElem?_eq_some_iff.1 ht).1
    simp at this
    omega
   rw [this] at ht
   simp at ht
   exact .inr ⟨by omega, ht.symm⟩
 have hx : Ext base J st μ σ w ⟨st.heap, st.tk ++ [n]⟩ μ (upd σ st.tk.length ⟨w.heap.size, endc, capc⟩) (wd.alloc (.cells us T)) := by
  refine ⟨Nat.le_refl _, fun _ _ => rfl, fun t e he => ⟨e, ?_, Nat.le_refl _, fun _ => hsg t e he⟩, fun g x hi hg => ⟨⟨hi.1, hi.2.1, fun t e ht hg' => ?_⟩, hw.cell (p := ⟨g, x, none⟩) hg⟩, hw.size⟩
  ·rw [List.getElem?_append_left (List.getElem?_eq_some_iff.1 he).1]; exact he
  ·rcases hcase t e ht with ht' | ⟨rfl, rfl⟩
   ·rw [hsg t e ht'] at hg' ⊢; exact hi.2.2 t e ht' hg'
   ·rw [upd_same] at hg'; simp at hg'; omega
 refine ⟨⟨h.bs, h.below.trans (hw.mono h.base_le), fun p cs hc => ?_, h.inj, fun t e ht => ?_⟩, hx⟩
 ·obtain ⟨q1, us', T', hb, hl, hr⟩ := h.hp p cs hc
  refine ⟨q1, us', T', (hw.block _ (Array.getElem?_eq_some_iff.1 hb).1).trans hb, hl, fun j a u ha hu => ?_⟩
  obtain ⟨r1, r2, r3⟩ := hr j a u ha hu
  exact ⟨r1, r2, hx.at r3⟩
 ·rcases hcase t e ht with ht' | ⟨rfl, rfl⟩
  ·obtain ⟨q1, ⟨us', T', hb, q2, q3⟩, q4, q5⟩ := h.tkt t e ht'
   rw [hsg t e ht']
   refine ⟨q1, ⟨us', T', (hw.block _ (Array.getElem?_eq_some_iff.1 hb).1).trans hb, q2, q3⟩, q4, fun t' e' ht'' hg => ?_⟩
   rcases hcase t' e' ht'' with h' | ⟨rfl, rfl⟩
   ·rw [hsg t' e' h'] at hg; exact q5 t' e' h' hg
   ·rw [upd_same] at hg
    have := (h.tk_lt ht').2
    simp at hg
    omega
  ·rw [upd_same]
   refine ⟨h.base_le, ⟨us, T, ?_, h2, h1⟩, fun p hp => ?_, fun t' e' ht'' hg => ?_⟩
   ·show (wd.alloc (.cells us T)).heap[w.heap.size]? = _
    rw [<- hws]; exact heap_alloc_new wd _
   ·have := (h.mu_lt hp).2
    simp
    omega
   ·rcases hcase t' e' ht'' with h' | ⟨rfl, rfl⟩
    ·rw [hsg t' e' h'] at hg
     have := (h.tk_lt h').2
     simp at hg
     omega
    ·rfl

/-- the ticket's slice has gone to a new block -/
theorem Ok.moveTk (h : Ok base J w0 st μ σ w) {t e : Nat} (ht : st.tk[t]? = some e) (us : Array Value) (T : TypeId) (n endc capc : Nat) (hn : e < n) (h1 : endc <= capc) (h2 : capc <= us.size) :
  Ok base J w0 ⟨st.heap, st.tk.set t n⟩ μ (upd σ t ⟨w.heap.size, endc, capc⟩) (w.drew.alloc (.cells us T)) /\
  Ext base J st μ σ w ⟨st.heap, st.tk.set t n⟩ μ (upd σ t ⟨w.heap.size, endc, capc⟩) (w.drew.alloc (.cells us T)) := by
 have htl : t < st.tk.length := (List.getElem?_eq_some_iff.1 ht).1
 have hw : Below w.heap.size w (w.drew.alloc (.cells us T)) := (below_drew w).alloc (by simp) _
 have hcase : ∀ t' e', (st.tk.set t n)[t']? = some e' -> (t' ≠ t /\ st.tk[t']? = some e' /\ upd σ t ⟨w.heap.size, endc, capc⟩ t' = σ t') \/ (t' = t /\ e' = n) := fun t' e' h' => by
  rw [List.getElem?_set] at h'
  by_cases ee : t = t'
  ·subst ee
   simp only [if_true, htl] at h'
   cases h'
   exact .inr ⟨rfl, rfl⟩
  ·rw [if_neg ee] at h'
   exact .inl ⟨Ne.symm ee, h', upd_ne _ _ (Ne.symm ee)⟩
 have hx : Ext base J st μ σ w ⟨st.heap, st.tk.set t n⟩ μ (upd σ t ⟨w.heap.size, endc, capc⟩) (w.drew.alloc (.cells us T)) := by
  refine ⟨Nat.le_refl _, fun _ _ => rfl, fun t' e' he => ?_, fun g x hi hg => ⟨⟨hi.1, hi.2.1, fun t' e' h' hg' => ?_⟩, hw.cell (p := ⟨g, x, none⟩) hg⟩, hw.size⟩
  ·by_cases ee : t' = t
   ·subst ee
    rw [ht] at he
    cases he
    exact ⟨n, by simp [htl], by omega, fun e => by omega⟩
   ·exact ⟨e', by rw [List.getElem?_set, if_neg (Ne.symm ee)]; exact he, Nat.le_refl _, fun _ => upd_ne _ _ ee⟩
  ·rcases hcase t' e' h' with ⟨q1, q2, q3⟩ | ⟨rfl, rfl⟩
   ·rw [q3] at hg' ⊢; exact hi.2.2 t' e' q2 hg'
   ·rw [upd_same] at hg'; simp at hg'; omega
 refine ⟨⟨h.bs, h.below.trans (hw.mono h.base_le), fun p cs hc => ?_, h.inj, fun t' e' ht' => ?_⟩, hx⟩
 ·obtain ⟨q1, us', T', hb, hl, hr⟩ := h.hp p cs hc
  refine ⟨q1, us', T', (hw.block _ (Array.getElem?_eq_some_iff.1 hb).1).trans hb, hl, fun j a u ha hu => ?_⟩
  obtain ⟨r1, r2, r3⟩ := hr j a u ha hu
  exact ⟨r1, r2, hx.at r3⟩
 ·rcases hcase t' e' ht' with ⟨q1, q2, q3⟩ | ⟨rfl, rfl⟩
  ·obtain ⟨r1, ⟨us', T', hb, r2, r3⟩, r4, r5⟩ := h.tkt t' e' q2
   rw [q3]
   refine ⟨r1, ⟨us', T', (hw.block _ (Array.getElem?_eq_some_iff.1 hb).1).trans hb, r2, r3⟩, r4, fun t2 e2 ht2 hg => ?_⟩
   rcases hcase t2 e2 ht2 with ⟨s1, s2, s3⟩ | ⟨rfl, rfl⟩
   ·rw [s3] at hg; exact r5 t2 e2 s2 hg
   ·rw [upd_same] at hg
    have := (h.tk_lt q2).2
    simp at hg
    omega
  ·rw [upd_same]
   refine ⟨h.base_le, ⟨us, T, heap_alloc_new w.drew _, h2, h1⟩, fun p hp => ?_, fun t2 e2 ht2 hg => ?_⟩
   ·have := (h.mu_lt hp).2
    simp
    omega
   ·rcases hcase t2 e2 ht2 with ⟨s1, s2, s3⟩ | ⟨rfl, rfl⟩
    ·rw [s3] at hg
     have := (h.tk_lt s2).2
     simp at hg
     omega
    ·rfl

/-- the ticket's slice has grown where it is -/
theorem Ok.growTk (h : Ok base J w0 st μ σ w) {t e : Nat} (ht : st.tk[t]? = some e) (vs : List Value) (n : Nat) (hn : e < n) (hroom : (σ t).endc + vs.length <= (σ t).capc) :
  Ok base J w0 ⟨st.heap, st.tk.set t n⟩ μ (upd σ t ⟨(σ t).g, (σ t).endc + vs.length, (σ t).capc⟩) (w.setCells (σ t).g (σ t).endc vs) /\
  Ext base J st μ σ w ⟨st.heap, st.tk.set t n⟩ μ (upd σ t ⟨(σ t).g, (σ t).endc + vs.length, (σ t).capc⟩) (w.setCells (σ t).g (σ t).endc vs) := by
 have htl : t < st.tk.length := (List.getElem?_eq_some_iff.1 ht).1
 obtain ⟨b1, ⟨us0, T, hb, b2, b3⟩, b4, b5⟩ := h.tkt t e ht
 obtain ⟨s1, s2, s3, s4, s5⟩ := below_setCells w (σ t).g (σ t).endc vs
 obtain ⟨us1, hb1, hsz1⟩ := heap_setCells vs (σ t).endc w us0 hb
 have hbw : Below base w (w.setCells (σ t).g (σ t).endc vs) := ⟨s1, s2, s3, by omega, fun k hk => s5 k (by omega)⟩
 have hcase : ∀ t' e', (st.tk.set t n)[t']? = some e' -> (t' ≠ t /\ st.tk[t']? = some e' /\ upd σ t ⟨(σ t).g, (σ t).endc + vs.length, (σ t).capc⟩ t' = σ t') \/ (t' = t /\ e' = n) := fun t' e' h' => by
  rw [List.getElem?_set] at h'
  by_cases ee : t = t'
  ·subst ee
   simp only [if_true, htl] at h'
   cases h'
   exact .inr ⟨rfl, rfl⟩
  ·rw [if_neg ee] at h'
   exact .inl ⟨Ne.symm ee, h', upd_ne _ _ (Ne.symm ee)⟩
 have hx : Ext base J st μ σ w ⟨st.heap, st.tk.set t n⟩ μ (upd σ t ⟨(σ t).g, (σ t).endc + vs.length, (σ t).capc⟩) (w.setCells (σ t).g (σ t).endc vs) := by
  refine ⟨Nat.le_refl _, fun _ _ => rfl, fun t' e' he => ?_, fun g x hi hg => ⟨⟨hi.1, hi.2.1, fun t' e' h' hg' => ?_⟩, ?_⟩, by omega⟩
  ·by_cases ee : t' = t
   ·subst ee
    rw [ht] at he
    cases he
    exact ⟨n, by simp [htl], by omega, fun e => by omega⟩
   ·exact ⟨e', by rw [List.getElem?_set, if_neg (Ne.symm ee)]; exact he, Nat.le_refl _, fun _ => upd_ne _ _ ee⟩
  ·rcases hcase t' e' h' with ⟨q1, q2, q3⟩ | ⟨rfl, rfl⟩
   ·rw [q3] at hg' ⊢; exact hi.2.2 t' e' q2 hg'
   ·rw [upd_same] at hg' ⊢
    have := hi.2.2 t' e ht hg'
    simp
    omega
  ·by_cases hgg : g = (σ t).g
   ·subst hgg
    have := hi.2.2 t e ht rfl
    exact World.cell?_setCells_out (σ t).g vs (σ t).endc w ⟨(σ t).g, x, none⟩ (fun _ _ => .inl this)
   ·exact World.cell?_of_block (a := ⟨g, x, none⟩) (s5 g hgg)
 refine ⟨⟨h.bs, h.below.trans hbw, fun p cs hc => ?_, h.inj, fun t' e' ht' => ?_⟩, hx⟩
 ·have hp : p < st.heap.length := (List.getElem?_eq_some_iff.1 hc).1
  obtain ⟨q1, us', T', hb', hl, hr⟩ := h.hp p cs hc
  refine ⟨q1, us', T', (s5 _ (b4 p hp)).trans hb', hl, fun j a u ha hu => ?_⟩
  obtain ⟨r1, r2, r3⟩ := hr j a u ha hu
  exact ⟨r1, r2, hx.at r3⟩
 ·rcases hcase t' e' ht' with ⟨q1, q2, q3⟩ | ⟨rfl, rfl⟩
  ·obtain ⟨r1, ⟨us', T', hb', r2, r3⟩, r4, r5⟩ := h.tkt t' e' q2
   rw [q3]
   have hne : (σ t').g ≠ (σ t).g := fun ee => q1 (r5 t e ht ee)
   refine ⟨r1, ⟨us', T', (s5 _ hne).trans hb', r2, r3⟩, r4, fun t2 e2 ht2 hg => ?_⟩
   rcases hcase t2 e2 ht2 with ⟨s1, s2, s3⟩ | ⟨rfl, rfl⟩
   ·rw [s3] at hg; exact r5 t2 e2 s2 hg
   ·rw [upd_same] at hg; exact absurd hg hne
  ·rw [upd_same]
   refine ⟨b1, ⟨us1, T, hb1, by simp; omega, by simp; omega⟩, b4, fun t2 e2 ht2 hg => ?_⟩
   rcases hcase t2 e2 ht2 with ⟨s1, s2, s3⟩ | ⟨rfl, rfl⟩
   ·rw [s3] at hg; exact b5 t2 e2 s2 hg
   ·rfl
end

def Fin (P : Program) (N : Value -> World -> Prop) : Result Next -> Prop
 | .ok (.value v) w' => N v w'
 | .ok .skip w' => N undef w'
 | .ok (.enter f args) w' => Calls P f args w' fun e w'' => ∃ v, e = .returned v /\ N v w''
 | _ => False
theorem wp_of_fin {P : Program} {o : Oper} {a : Act} {w : World} {next : Act -> World -> Prop} {Q : Exit -> Act -> World -> Prop} {N : Value -> World -> Prop}
  (h : Fin P N ((execOp a.eval o).run P w)) (hn : ∀ v w', N v w' -> next (a.put o.dst v) w') : o.wp P a w next Q := by
 unfold Oper.wp
 generalize (execOp a.eval o).run P w = r at h
 cases r with
 | halt x w' => exact h.elim
 | ok n w' =>
  cases n <;> simp only [Fin] at h <;> simp only [Oper.upon]
  case value v => exact hn _ _ h
  case skip => exact hn _ _ h
  case enter f args => exact h.mono fun e w'' ⟨v, he, hv⟩ => by subst he; exact hn _ _ hv

section
variable {base : Nat} {J : Nat -> Nat -> Prop} {w0 : World} {st : St} {μ : Nat -> Nat} {σ : Nat -> Tkt} {w w' : World} {P : Program} {T : Tab} {K : AV -> St -> Prop}

/-- what stands behind an operation -/
def NN (base : Nat) (J : Nat -> Nat -> Prop) (w0 : World) (st : St) (μ : Nat -> Nat) (σ : Nat -> Tkt) (w : World) (K : AV -> St -> Prop) (v : Value) (w' : World) : Prop :=
 ∃ r st' μ' σ', K r st' /\ Ok base J w0 st' μ' σ' w' /\ Ext base J st μ σ w st' μ' σ' w' /\ At base J st' μ' σ' w' r v
theorem NN.same (h : Ok base J w0 st μ σ w) {r : AV} {v : Value} (hk : K r st) (ha : At base J st μ σ w r v) : NN base J w0 st μ σ w K v w := ⟨r, st, μ, σ, hk, h, .refl, ha⟩

theorem Tab.Ok.und (hT : T.Ok P) {t : TypeId} {d : TypeDesc} (h : (T t).map TI.desc = some d) : P.underlying t = some d := by
 obtain ⟨i, hi, rfl⟩ := Option.map_eq_some_iff.1 h
 exact (hT t i hi).1
theorem Tab.Ok.size (hT : T.Ok P) {t : TypeId} {i : TI} (h : T t = some i) (w : World) : (sizeOf t).run P w = .ok i.size w := by
 obtain ⟨_, inf, z, h1, _, _, h2, _⟩ := hT t i h
 simp [sizeOf, typeInfo, h1, h2]
theorem Tab.Ok.isAgg (hT : T.Ok P) {t : TypeId} {i : TI} (h : T t = some i) (w : World) : (Go.isAgg t).run P w = .ok (isAggD i.desc) w := by
 have hu := (hT t i h).1
 unfold Go.isAgg
 rw [Sem.run_bind, run_underlying hu]
 cases i.desc <;> rfl
theorem Tab.Ok.zeroV (hT : T.Ok P) {t : TypeId} {i : TI} (h : T t = some i) (w : World) : ∃ z, (zeroValue t).run P w = .ok z w /\ z.cells = i.zero.toArray := by
 obtain ⟨_, inf, z, h1, h2, h3, _⟩ := hT t i h
 exact ⟨z, by simp [zeroValue, typeInfo, h1, h2], h3⟩

/-- loading a part of a variable -/
theorem ldA_sound (hT : T.Ok P) {t : TypeId} {i : TI} (ht : T t = some i) {cs : List AV} {off b o0 : Nat} {K1 : AV -> Prop} (h : ldA i cs off K1)
  (hc : ∀ (j : Nat) a, cs[j]? = some a -> ∃ u, w.cell? ⟨b, o0 + j, none⟩ = some u /\ At base J st μ σ w a u) :
  ∃ v r, (loadVar t ⟨b, o0 + off, none⟩).run P w = .ok v w /\ K1 r /\ At base J st μ σ w r v := by
 unfold loadVar
 rw [Sem.run_bind, hT.isAgg ht]
 unfold ldA at h
 cases hA : isAggD i.desc
 ·rw [hA] at h
  simp only at h
  cases hx : cs[off]? with
  | none => rw [hx] at h; exact h.elim
  | some a =>
   rw [hx] at h
   obtain ⟨u, h1, h2⟩ := hc off a hx
   exact ⟨u, a, by simp [h1], h, h2⟩
 ·rw [hA] at h
  have key : off + i.size <= cs.length -> K1 (.agg ((cs.drop off).take i.size)) -> ∃ v r, ((Result.ok true w).andThen fun a w' => Sem.run P (if a = true then (do let __do_lift <- loadCells ⟨b, o0 + off, none⟩ (<- sizeOf t); pure (Value.agg __do_lift)) else load ⟨b, o0 + off, none⟩) w') = .ok v w /\ K1 r /\ At base J st μ σ w r v := by
   intro hle hk
   have hl : ∀ j, j < i.size -> w.cell? ((⟨b, o0 + off, none⟩ : Addr).add j) = some ((w.cell? ⟨b, o0 + off + j, none⟩).getD undef) := fun j hj => by
    obtain ⟨u, h1, _⟩ := hc (off + j) _ (List.getElem?_eq_getElem (by omega))
    rw [<- Nat.add_assoc] at h1
    rw [Addr.add_lit, h1]; rfl
   refine ⟨.agg ((List.range i.size).map fun j => (w.cell? ⟨b, o0 + off + j, none⟩).getD undef).toArray, _, ?_, hk, ?_⟩
   ·simp [hT.size ht, run_loadCells w _ i.size _ hl]
   ·refine .agg _ _ (by simp; omega) (fun j a u ha hu => ?_)
    have hj : j < i.size := by
     have := (Array.getElem?_eq_some_iff.1 hu).1
     simpa using this
    rw [List.getElem?_take, if_pos hj, List.getElem?_drop] at ha
    obtain ⟨u', h1, h2⟩ := hc _ a ha
    simp [hj] at hu
    rw [<- hu, Nat.add_assoc, h1]
    exact h2
  simp only at h
  split at h
  ·rename_i hle
   exact key (of_decide_eq_true hle) (listK_iff.1 h)
  ·exact h.elim

theorem load_sound (hT : T.Ok P) (h : Ok base J w0 st μ σ w) {ρ : Operand -> AV} {ρc : Operand -> Value} (hρ : ∀ x, At base J st μ σ w (ρ x) (ρc x)) {o : Oper} {t : TypeId} {a : Operand} (ho : o.op = .load t a)
  (hv : vcOp P T (.load t a) ρ st K) : Fin P (NN base J w0 st μ σ w K) ((execOp ρc o).run P w) := by
 simp only [vcOp, listK_iff, listLK_iff, AV.fc_iff] at hv
 cases ht : T t with
 | none => rw [ht] at hv; exact hv.elim
 | some i =>
  rw [ht] at hv
  simp only at hv
  have ha := hρ a
  simp only [execOp, ho, Sem.run_bind, Instr.loadAt]
  cases hx : ρ a <;> rw [hx] at hv ha <;> try exact hv.elim
  case ptr p off =>
   obtain ⟨cs, hcs, hl⟩ := hv
   cases hp : ρc a <;> rw [hp] at ha <;> cases ha
   rename_i hlt
   obtain ⟨_, us, TT, hb, hlen, hr⟩ := h.hp p cs hcs
   obtain ⟨v, r, h1, h2, h3⟩ := ldA_sound (o0 := 0) (b := μ p) hT ht hl (fun j a ha => by
    have hj := (List.getElem?_eq_some_iff.1 ha).1
    have hu : us[j]? = some us[j] := Array.getElem?_eq_getElem (by omega)
    refine ⟨us[j], ?_, (hr j a _ ha hu).2.2⟩
    rw [Nat.zero_add, cell_block hb, hu])
   rw [Nat.zero_add] at h1
   simp only [Instr.sureAddr, Sem.run_pure, Result.andThen_ok, h1]
   exact NN.same h h2 h3
  case elt es =>
   cases hp : ρc a <;> rw [hp] at ha <;> cases ha
   rename_i g o us hf hc hr
   obtain ⟨v, r, h1, h2, h3⟩ := ldA_sound (o0 := o) (b := g) hT ht hv (fun j a ha => ⟨us j, (hc j a ha).2, hr j a ha⟩)
   rw [Nat.add_zero] at h1
   simp only [Instr.sureAddr, Sem.run_pure, Result.andThen_ok, h1]
   exact NN.same h h2 h3

theorem store_sound (hT : T.Ok P) (h : Ok base J w0 st μ σ w) {ρ : Operand -> AV} {ρc : Operand -> Value} (hρ : ∀ x, At base J st μ σ w (ρ x) (ρc x)) {o : Oper} {t : TypeId} {a x : Operand} (ho : o.op = .store t a x)
  (hv : vcOp P T (.store t a x) ρ st K) : Fin P (NN base J w0 st μ σ w K) ((execOp ρc o).run P w) := by
 simp only [vcOp, listK_iff, listLK_iff, AV.fc_iff] at hv
 cases ht : T t with
 | none => rw [ht] at hv; exact hv.elim
 | some i =>
  rw [ht] at hv
  simp only at hv
  have ha := hρ a
  have hxx := hρ x
  simp only [execOp, ho, Sem.run_bind, Instr.storeAt]
  cases hx : ρ a <;> rw [hx] at hv ha <;> try exact hv.elim
  rename_i p off
  simp only at hv
  split at hv
  ·rename_i hck
   obtain ⟨cs, hcs, hv⟩ := hv
   split at hv
   case h_2 => exact hv.elim
   rename_i hle
   have hle := of_decide_eq_true hle
   have hk := hv
   simp only [Bool.and_eq_true, decide_eq_true_eq] at hck
   obtain ⟨⟨hs, hl⟩, hcell⟩ := hck
   have hl9 : (ρ x).cells.length = i.size := hl
   cases hp : ρc a <;> rw [hp] at ha <;> cases ha
   rename_i hlt
   obtain ⟨hl2, hr2⟩ := hxx.cells hs
   have hcell' := List.all_eq_true.1 hcell
   have hall : ∀ (j : Nat) a u, (ρ x).cells[j]? = some a -> (ρc x).cells.toList[j]? = some u -> a.cell = true /\ a.old p = true /\ At base J st μ σ w a u := fun j a u ha hu => by
    rw [Array.getElem?_toList] at hu
    exact ⟨hcell' a (List.mem_of_getElem? ha), rfl, hr2 j a u ha hu⟩
   obtain ⟨ok', ext'⟩ := h.store (off := off) hcs (vs := (ρ x).cells) (us := (ρc x).cells.toList) (by simpa using hl2) (by omega) hall
   obtain ⟨_, us, TT, hb, hlen, hr⟩ := h.hp p cs hcs
   have hlen2 : (ρc x).cells.toList.length = i.size := by simp; omega
   have hst := run_storeCells_cells (P := P) (μ p) off (ρc x).cells.toList 0 w
    (fun j hj => by rw [Nat.add_zero, cell_block hb, Array.getElem?_eq_getElem (by omega)]; rfl)
    (fun j hj => by simp [World.frozen?, hb])
    (fun v hv => by
      obtain ⟨j, hj⟩ := List.mem_iff_getElem?.1 hv
      have hjl := (List.getElem?_eq_some_iff.1 hj).1
      have haj : (ρ x).cells[j]? = some (ρ x).cells[j] := List.getElem?_eq_getElem (by simp at hjl; omega)
      exact (hall j _ v haj hj).2.2.one (hall j _ v haj hj).1)
   rw [Nat.add_zero] at hst
   have hsz : ¬ ((ρc x).cells.size ≠ i.size) := by rw [<- hl2]; omega
   simp only [Instr.sureAddr, Sem.run_pure, Result.andThen_ok, storeVar, Sem.run_bind, hT.size ht, if_neg hsz, hst]
   exact ⟨_, _, _, _, hk, ok', ext', .lit _⟩
  ·exact hv.elim

theorem alloc_sound (hT : T.Ok P) (h : Ok base J w0 st μ σ w) {ρ : Operand -> AV} {ρc : Operand -> Value} {o : Oper} {t : TypeId} (ho : o.op = .alloc t)
  (hv : vcOp P T (.alloc t) ρ st K) : Fin P (NN base J w0 st μ σ w K) ((execOp ρc o).run P w) := by
 simp only [vcOp, listK_iff, listLK_iff, AV.fc_iff] at hv
 cases ht : T t with
 | none => rw [ht] at hv; exact hv.elim
 | some i =>
  rw [ht] at hv
  simp only at hv
  obtain ⟨z, hz, hzc⟩ := hT.zeroV ht w
  split at hv
  ·rename_i hall
   obtain ⟨ok', ext'⟩ := h.newVar (i.zero.map AV.lit) z.cells t (by rw [hzc]; simp) (fun j a u ha hu => by
    rw [hzc] at hu
    simp only [List.getElem?_map, Option.map_eq_some_iff] at ha
    obtain ⟨y, hy, rfl⟩ := ha
    simp [hy] at hu
    subst hu
    exact ⟨List.all_eq_true.1 hall _ (List.mem_of_getElem? hy), rfl, .lit _⟩)
   have e : (execOp ρc o).run P w = .ok (.value (.pointer (some ⟨w.heap.size, 0, none⟩))) (w.alloc (.cells z.cells t)) := by
    simp [execOp, ho, Instr.alloc, hz, newVar, newRow]
   rw [e]
   refine ⟨_, _, _, _, hv, ok', ext', ?_⟩
   have := Rp.ptr (w := w.alloc (.cells z.cells t)) (I := Im base J ⟨st.heap ++ [i.zero.map AV.lit], st.tk⟩ (upd μ st.heap.length w.heap.size) σ) (hl := st.heap.length + 1) (μ := upd μ st.heap.length w.heap.size) (tk := st.tk) (σ := σ) st.heap.length 0 (by omega)
   rw [upd_same] at this
   simpa [At] using this
  ·exact hv.elim

theorem box_sound (h : Ok base J w0 st μ σ w) {ρ : Operand -> AV} {ρc : Operand -> Value} (hρ : ∀ x, At base J st μ σ w (ρ x) (ρc x)) {o : Oper} {t : TypeId} {x : Operand} (ho : o.op = .box t x)
  (hv : vcOp P T (.box t x) ρ st K) : Fin P (NN base J w0 st μ σ w K) ((execOp ρc o).run P w) := by
 simp only [vcOp, listK_iff, listLK_iff, AV.fc_iff] at hv
 have hxx := hρ x
 split at hv
 ·rename_i hck
  obtain ⟨_, hk⟩ := olderA_iff.1 hv
  simp only [Bool.and_eq_true] at hck
  obtain ⟨hs, hcell⟩ := hck
  obtain ⟨hl2, hr2⟩ := hxx.cells hs
  obtain ⟨ok', ext'⟩ := h.newVar (ρ x).cells (ρc x).cells t hl2 (fun j a u ha hu => ⟨List.all_eq_true.1 hcell _ (List.mem_of_getElem? ha), rfl, hr2 j a u ha hu⟩)
  have e : (execOp ρc o).run P w = .ok (.value (.pointer (some ⟨w.heap.size, 0, none⟩))) (w.alloc (.cells (ρc x).cells t)) := by
   simp [execOp, ho, Instr.box, newVar, newRow]
  rw [e]
  refine ⟨_, _, _, _, hk, ok', ext', ?_⟩
  have := Rp.ptr (w := w.alloc (.cells (ρc x).cells t)) (I := Im base J ⟨st.heap ++ [(ρ x).cells], st.tk⟩ (upd μ st.heap.length w.heap.size) σ) (hl := st.heap.length + 1) (μ := upd μ st.heap.length w.heap.size) (tk := st.tk) (σ := σ) st.heap.length 0 (by omega)
  rw [upd_same] at this
  simpa [At] using this
 ·exact hv.elim
end

section
variable {base : Nat} {J : Nat -> Nat -> Prop} {w0 : World} {st : St} {μ : Nat -> Nat} {σ : Nat -> Tkt} {w w' : World} {P : Program} {T : Tab} {K : AV -> St -> Prop}

theorem Rp.of_lit {I : Nat -> Nat -> Prop} {hl : Nat} {tk : List Nat} {v u : Value} (h : Rp w I hl μ tk σ (.lit v) u) : u = v := by cases h; rfl

/-- an operation that leaves the world alone -/
def Pu (P : Program) (w : World) (A : AV -> Value -> Prop) (s : Sem Value) (K1 : AV -> Prop) : Prop := ∃ v r, s.run P w = .ok v w /\ K1 r /\ A r v
theorem Pu.lit {s : Sem Value} {K1 : AV -> Prop} {v : Value} (hs : s.run P w = .ok v w) (hk : K1 (.lit v)) : Pu P w (At base J st μ σ w) s K1 := ⟨v, _, hs, hk, .lit v⟩
theorem Pu.fin (h : Ok base J w0 st μ σ w) {s : Sem Value} (hp : Pu P w (At base J st μ σ w) s fun r => K r st) {n : Sem Next} (hn : n = (do pure (.value (<- s)))) : Fin P (NN base J w0 st μ σ w K) (n.run P w) := by
 obtain ⟨v, r, h1, h2, h3⟩ := hp
 rw [hn, Sem.run_bind, h1]
 exact NN.same h h2 h3

theorem binInt_sound {op : BinOp} {k : IntKind} {a b : Int} {K1 : AV -> Prop} (t : TypeId) (hv : binInt op k a b K1) : Pu P w (At base J st μ σ w) (Go.binOp op t (.int k a) (.int k b)) K1 := by
 cases op <;> simp only [binInt] at hv
 case add => exact Pu.lit (v := .int k (k.wrap (a + b))) (by simp [Go.binOp, Op.intArith]) (hv _ rfl)
 case sub => exact Pu.lit (v := .int k (k.wrap (a - b))) (by simp [Go.binOp, Op.intArith]) (hv _ rfl)
 case mul => exact Pu.lit (v := .int k (k.wrap (a * b))) (by simp [Go.binOp, Op.intArith]) (hv _ rfl)
 case quo => exact Pu.lit (v := .int k (k.wrap (a.tdiv b))) (by simp [Go.binOp, Op.intDiv, hv.1]) (hv.2 _ rfl)
 case rem => exact Pu.lit (v := .int k (a.tmod b)) (by simp [Go.binOp, Op.intDiv, hv.1]) hv.2
 case eql => exact Pu.lit (v := .bool (a == b)) (by simp [Go.binOp, Op.intCmp]) hv
 case neq => exact Pu.lit (v := .bool (a != b)) (by simp [Go.binOp, Op.intCmp]) hv
 case lss => exact Pu.lit (v := .bool (decide (a < b))) (by simp [Go.binOp, Op.intCmp]) hv
 case leq => exact Pu.lit (v := .bool (decide (a <= b))) (by simp [Go.binOp, Op.intCmp]) hv
 case gtr => exact Pu.lit (v := .bool (decide (a > b))) (by simp [Go.binOp, Op.intCmp]) hv
 case geq => exact Pu.lit (v := .bool (decide (a >= b))) (by simp [Go.binOp, Op.intCmp]) hv
 case and => exact Pu.lit (v := .int k (k.wrap ((BitVec.ofInt k.bits a &&& BitVec.ofInt k.bits b).toNat : Int))) (by simp [Go.binOp, Op.intBits]) (hv _ rfl)
 case shr => exact Pu.lit (v := .int k (a.fdiv (2 ^ min b.toNat k.bits))) (by simp [Go.binOp, Op.shift, show ¬ b < 0 by omega]) (hv.2 _ rfl)
 case shl => exact Pu.lit (v := .int k (k.wrap (a * 2 ^ min b.toNat k.bits))) (by simp [Go.binOp, Op.shift, show ¬ b < 0 by omega]) (hv.2 _ rfl)
theorem binSh_sound {op : BinOp} {k k' : IntKind} {a b : Int} {K1 : AV -> Prop} (t : TypeId) (hs : isSh op = true) (hv : binInt op k a b K1) : Pu P w (At base J st μ σ w) (Go.binOp op t (.int k a) (.int k' b)) K1 := by
 cases op <;> simp [isSh] at hs <;> simp only [binInt] at hv
 case shr => exact Pu.lit (v := .int k (a.fdiv (2 ^ min b.toNat k.bits))) (by simp [Go.binOp, Op.shift, show ¬ b < 0 by omega]) (hv.2 _ rfl)
 case shl => exact Pu.lit (v := .int k (k.wrap (a * 2 ^ min b.toNat k.bits))) (by simp [Go.binOp, Op.shift, show ¬ b < 0 by omega]) (hv.2 _ rfl)

theorem data_len (a : ByteArray) : a.data.toList.length = a.size := Array.length_toList
theorem toList_loop_eq (a : ByteArray) : ∀ (n i : Nat) (r : List UInt8), a.size - i = n -> ByteArray.toList.loop a i r = r.reverse ++ a.data.toList.drop i := by
 have hd := data_len a
 intro n
 induction n with
 | zero =>
  intro i r h
  rw [ByteArray.toList.loop, if_neg (by omega), List.drop_eq_nil_of_le (by omega), List.append_nil]
 | succ n ih =>
  intro i r h
  have hl : i < a.data.toList.length := by omega
  rw [ByteArray.toList.loop, if_pos (by omega), ih (i + 1) _ (by omega), List.drop_eq_getElem_cons hl, List.reverse_cons, List.append_assoc]
  have hs : i < a.data.size := by simpa using hl
  congr 1
  show [a.get! i] ++ _ = _
  simp [ByteArray.get!]
  exact getElem!_pos a.data i hs
theorem toList_eq (a : ByteArray) : a.toList = a.data.toList := by
 rw [ByteArray.toList, toList_loop_eq a _ 0 [] rfl]
 rfl
theorem toList_beq (a b : ByteArray) : (a.toList == b.toList) = true ↔ a = b := by
 rw [beq_iff_eq, toList_eq, toList_eq]
 constructor
 ·intro h
  cases a; cases b
  congr
  exact Array.ext' h
 ·intro h; rw [h]

theorem binStr_sound {op : BinOp} {a b : ByteArray} {K1 : AV -> Prop} (t : TypeId) (hv : binStr op a b K1) : Pu P w (At base J st μ σ w) (Go.binOp op t (.string a) (.string b)) K1 := by
 cases op <;> simp only [binStr] at hv
 case add =>
  have h63 : ¬ (((a.size + b.size : Nat) : Int) > IntKind.i64.max) := by
   have := hv.1
   have e : IntKind.i64.max = 9223372036854775807 := by decide
   rw [e]
   unfold maxLen at this
   omega
  exact Pu.lit (v := .string (a ++ b)) (by simp only [Go.binOp, Op.stringOp, if_neg h63, Sem.run_pure]) hv.2
 case eql => exact Pu.lit (v := .bool (a.toList == b.toList)) (by simp [Go.binOp, Op.stringOp]) (hv _ (toList_beq a b))
 case neq => exact Pu.lit (v := .bool (!(a.toList == b.toList))) (by simp [Go.binOp, Op.stringOp]) (hv _ (by rw [<- toList_beq a b]; simp))
 case lss => exact Pu.lit (v := .bool (Op.bytesLess a.toList b.toList)) (by simp [Go.binOp, Op.stringOp]) hv
 case leq => exact Pu.lit (v := .bool (Op.bytesLess a.toList b.toList || a.toList == b.toList)) (by simp [Go.binOp, Op.stringOp]) (hv _ rfl)
 case gtr => exact Pu.lit (v := .bool (!(Op.bytesLess a.toList b.toList || a.toList == b.toList))) (by simp [Go.binOp, Op.stringOp]) (hv _ rfl)
 case geq => exact Pu.lit (v := .bool (!(Op.bytesLess a.toList b.toList))) (by simp [Go.binOp, Op.stringOp]) hv

theorem eqlB_sound {op : BinOp} {t : TypeId} {x y : Value} {q : Bool} {K1 : AV -> Prop} (hv : eqlB op q K1)
  (he : ∀ op', (op' = .eql \/ op' = .neq) -> Go.binOp op' t x y = (if op' = .eql then (do pure (.bool (<- Op.equal t x y))) else (do pure (.bool (!(<- Op.equal t x y))))))
  (hq : (Op.equal t x y).run P w = .ok q w) : Pu P w (At base J st μ σ w) (Go.binOp op t x y) K1 := by
 cases op <;> simp only [eqlB] at hv
 case eql => exact Pu.lit (v := .bool q) (by rw [he _ (.inl rfl), if_pos rfl, Sem.run_bind, hq]; rfl) hv
 case neq => exact Pu.lit (v := .bool (!q)) (by rw [he _ (.inr rfl), if_neg (by decide), Sem.run_bind, hq]; rfl) hv

theorem equal_unfold : ∃ d, ∀ (t : TypeId) (x y : Value), Op.equal t x y = Op.equalIn (d + 1) t x y := ⟨9999, fun _ _ _ => rfl⟩

theorem cellEq_sound (hT : T.Ok P) {d : Nat} {t : TypeId} {x y : Option AV} {a b : Option Value} {A : Prop} (h : cellEq ((T t).map TI.desc) x y = some A) (hx : ∀ c u, x = some c -> a = some u -> At base J st μ σ w c u) (hy : ∀ c u, y = some c -> b = some u -> At base J st μ σ w c u)
  (ha : x.isSome = true -> a.isSome = true) (hb : y.isSome = true -> b.isSome = true) : ∃ u v q, a = some u /\ b = some v /\ (∀ (xs : Array Value) (off : Nat), xs[off]? = some u -> (part t xs off).run P w = .ok u w) /\ (∀ (xs : Array Value) (off : Nat), xs[off]? = some v -> (part t xs off).run P w = .ok v w) /\ (Op.equalIn (d + 1) t u v).run P w = .ok q w /\ (q = true ↔ A) := by
 unfold cellEq at h
 split at h
 ·rename_i k0 k m k' n hd
  have hu := hT.und hd
  split at h
  ·rename_i hk
   have hk := of_decide_eq_true hk
   subst hk
   cases h
   obtain ⟨u, rfl⟩ := Option.isSome_iff_exists.1 (ha rfl)
   obtain ⟨v, rfl⟩ := Option.isSome_iff_exists.1 (hb rfl)
   have eu := (hx _ _ rfl rfl).of_lit
   have ev := (hy _ _ rfl rfl).of_lit
   subst eu
   subst ev
   exact ⟨_, _, m == n, rfl, rfl, fun xs off h => by simp [part, isAgg, run_underlying hu, h], fun xs off h => by simp [part, isAgg, run_underlying hu, h], by simp [Op.equalIn, run_underlying hu], beq_iff_eq⟩
  ·cases h
 ·rename_i m n hd
  have hu := hT.und hd
  cases h
  obtain ⟨u, rfl⟩ := Option.isSome_iff_exists.1 (ha rfl)
  obtain ⟨v, rfl⟩ := Option.isSome_iff_exists.1 (hb rfl)
  have eu := (hx _ _ rfl rfl).of_lit
  have ev := (hy _ _ rfl rfl).of_lit
  subst eu
  subst ev
  refine ⟨_, _, m == n, rfl, rfl, fun xs off h => by simp [part, isAgg, run_underlying hu, h], fun xs off h => by simp [part, isAgg, run_underlying hu, h], by simp [Op.equalIn, run_underlying hu], ?_⟩
  rw [beq_toListBytes]
  exact toList_beq m n
 ·rename_i m n hd
  have hu := hT.und hd
  cases h
  obtain ⟨u, rfl⟩ := Option.isSome_iff_exists.1 (ha rfl)
  obtain ⟨v, rfl⟩ := Option.isSome_iff_exists.1 (hb rfl)
  have eu := (hx _ _ rfl rfl).of_lit
  have ev := (hy _ _ rfl rfl).of_lit
  subst eu
  subst ev
  exact ⟨_, _, m == n, rfl, rfl, fun xs off h => by simp [part, isAgg, run_underlying hu, h], fun xs off h => by simp [part, isAgg, run_underlying hu, h], by simp [Op.equalIn, run_underlying hu], beq_iff_eq⟩
 ·cases h
theorem cellsEq_sound (hT : T.Ok P) {d : Nat} {cs ds : List AV} {us vs : Array Value} (e1 : cs.length = us.size) (e2 : ds.length = vs.size)
  (hr1 : ∀ (j : Nat) a u, cs[j]? = some a -> us[j]? = some u -> At base J st μ σ w a u) (hr2 : ∀ (j : Nat) a u, ds[j]? = some a -> vs[j]? = some u -> At base J st μ σ w a u) : ∀ (fs : List Go.Field) (A : Prop), cellsEq T cs ds fs = some A ->
  ∃ q : Bool, (Op.eqFields (d + 1) us vs fs).run P w = .ok q w /\ (q = true ↔ A)
 | [], A, h => by
  cases h
  exact ⟨true, by simp [Op.eqFields], by simp⟩
 | f :: fs, A, h => by
  unfold cellsEq at h
  split at h
  ·rename_i A1 hn hA1
   split at h
   ·rename_i B hB
    cases h
    have hn' : f.name ≠ "_" := by simpa using hn
    obtain ⟨u, v, q, q1, q2, q3, q4, q5, q6⟩ := cellEq_sound (d := d) (a := us[f.offset]?) (b := vs[f.offset]?) hT hA1 (fun c u hc hu => hr1 _ c u hc hu) (fun c u hc hu => hr2 _ c u hc hu)
     (fun h => by
       obtain ⟨c, hc⟩ := Option.isSome_iff_exists.1 h
       have := (List.getElem?_eq_some_iff.1 hc).1
       rw [Array.getElem?_eq_getElem (by omega)]; rfl)
     (fun h => by
       obtain ⟨c, hc⟩ := Option.isSome_iff_exists.1 h
       have := (List.getElem?_eq_some_iff.1 hc).1
       rw [Array.getElem?_eq_getElem (by omega)]; rfl)
    obtain ⟨q', r1, r2⟩ := cellsEq_sound hT e1 e2 hr1 hr2 fs B hB
    simp only [Op.eqFields, hn', ne_eq, not_false_eq_true, if_true, Sem.run_bind, q3 _ _ q1, q4 _ _ q2, q5, Result.andThen_ok]
    cases q
    ·exact ⟨false, by simp, by simp; intro e; exact absurd (q6.2 e) (by simp)⟩
    ·refine ⟨q', by simpa using r1, ?_⟩
     rw [r2]
     simp [q6.1 rfl]
   ·cases h
  ·cases h

theorem vcNilI_sound {op : BinOp} {t : TypeId} {x y : AV} {a b : Value} {K1 : AV -> Prop} (hx : At base J st μ σ w x a) (hy : At base J st μ σ w y b) (hv : vcNilI P op t x y K1) :
  Pu P w (At base J st μ σ w) (Go.binOp op t a b) K1 := by
 obtain ⟨⟨ms, hu⟩, hv⟩ := hv
 split at hv
 iterate 2
  ·rw [hx.of_lit, hy.of_lit]
   exact eqlB_sound hv (fun op' h => by rcases h with rfl | rfl <;> rfl) (by obtain ⟨d, hd⟩ := equal_unfold; rw [hd]; simp [Op.equalIn, run_underlying hu])
 ·exact hv.elim
theorem vcBin_sound (hT : T.Ok P) {op : BinOp} {t : TypeId} {x y : AV} {a b : Value} {K1 : AV -> Prop} (hx : At base J st μ σ w x a) (hy : At base J st μ σ w y b) (hv : vcBin P T op t x y K1) :
  Pu P w (At base J st μ σ w) (Go.binOp op t a b) K1 := by
 unfold vcBin at hv
 split at hv
 ·rename_i cs ds
  split at hv
  ·rename_i fs hd
   have hu := hT.und hd
   obtain ⟨hst, hv⟩ := hv
   have hst := (Bool.or_eq_false_iff.1 hst).1
   split at hv
   ·rename_i A hA
    cases hx with
    | agg _ us e1 hr1 =>
     cases hy with
     | agg _ vs e2 hr2 =>
      obtain ⟨d, hd⟩ := equal_unfold
      have hfs : P.fieldsOf t = fs := by simp [Program.fieldsOf, hu]
      obtain ⟨q, hq, hiff⟩ := cellsEq_sound (d := 9998) hT e1 e2 hr1 hr2 fs.toList A hA
      refine eqlB_sound (hv q hiff) (fun op' h => by rcases h with rfl | rfl <;> rfl) ?_
      rw [show Op.equal t (.agg us) (.agg vs) = Op.equalIn (9999 + 1) t (.agg us) (.agg vs) from rfl, run_equalIn_struct w 9999 t us vs (by rw [hfs]; exact hu) hst, hfs]
      exact hq
   ·exact hv.elim
  ·exact hv.elim
 ·cases hx; cases hy
  split at hv
  ·rename_i hk
   have hk' := of_decide_eq_true hk
   subst hk'
   exact binInt_sound t hv
  ·split at hv
   ·rename_i hs
    exact binSh_sound t hs hv
   ·exact hv.elim
 ·cases hx; cases hy
  exact binStr_sound t hv
 iterate 10
  ·cases hx; cases hy
   split at hv
   ·rename_i hd
    have hu := hT.und hd
    exact eqlB_sound hv (fun op' h => by rcases h with rfl | rfl <;> rfl) (by obtain ⟨d, hd⟩ := equal_unfold; rw [hd]; simp [Op.equalIn, run_underlying hu])
   ·exact hv.elim
 ·exact hv.elim

theorem vcUn_sound {op : UnOp} {x : AV} {a : Value} {K1 : AV -> Prop} (hx : At base J st μ σ w x a) (hv : vcUn op x K1) : Pu P w (At base J st μ σ w) (Op.unary op a) K1 := by
 unfold vcUn at hv
 split at hv
 ·cases hx
  rename_i b
  exact Pu.lit (v := .bool (!b)) (by simp [Op.unary]) hv
 ·cases hx
  rename_i k n
  exact Pu.lit (v := .int k (k.wrap (0 - n))) (by simp [Op.unary, Op.intArith]) (hv _ rfl)
 ·exact hv.elim

theorem vcLenS_sound {x : AV} {a : Value} {K1 : AV -> Prop} {t ty : TypeId} (hx : At base J st μ σ w x a) (hu : P.underlying t = some .string) (hv : vcLenS x K1) : Pu P w (At base J st μ σ w) (Builtin.len_ #[t] ty #[a]) K1 := by
 unfold vcLenS at hv
 split at hv
 ·cases hx
  rename_i s
  exact Pu.lit (v := .int .i64 s.size) (by simp [Builtin.len_, run_underlying hu, goInt]) hv
 ·exact hv.elim
theorem vcLenL_sound {x : AV} {a : Value} {K1 : AV -> Prop} {t ty e : TypeId} (hx : At base J st μ σ w x a) (hu : P.underlying t = some (.slice e)) (hv : vcLenL x K1) : Pu P w (At base J st μ σ w) (Builtin.len_ #[t] ty #[a]) K1 := by
 unfold vcLenL at hv
 split at hv
 ·cases hx
  ·exact Pu.lit (v := .int .i64 0) (by simp [Builtin.len_, run_underlying hu, goInt]) hv
  ·rename_i t sz es g o cap us hs hn hm hc hr ht1 ht2
   exact Pu.lit (v := .int .i64 es.length) (by simp [Builtin.len_, run_underlying hu, goInt]) hv
 ·cases hx
  rename_i n c
  exact Pu.lit (v := .int .i64 n) (by simp [Builtin.len_, run_underlying hu, goInt]) hv
 ·rename_i p lo n cap sz
  cases hx
  exact Pu.lit (v := .int .i64 n) (by simp [Builtin.len_, run_underlying hu, goInt]) hv
 ·exact hv.elim

theorem minA_sound {mx : Bool} {x : AV} {a : Value} {K1 : AV -> Prop} : ∀ (r : List AV) (bs : List Value) (x : AV) (a : Value), At base J st μ σ w x a -> r.length = bs.length -> (∀ (j : Nat) y b, r[j]? = some y -> bs[j]? = some b -> At base J st μ σ w y b) ->
  minA (if mx then fun a b => if b > a then b else a else fun a b => if b < a then b else a) x r K1 -> Pu P w (At base J st μ σ w) (bs.foldlM (if mx then Builtin.max2 else Builtin.min2) a) K1
 | [], [], x, a, hx, _, _, hv => ⟨a, x, rfl, hv, hx⟩
 | [], _ :: _, _, _, _, h, _, _ => by simp at h
 | _ :: _, [], _, _, _, h, _, _ => by simp at h
 | y :: r, b :: bs, x, a, hx, hl, hr, hv => by
  have hy := hr 0 y b rfl rfl
  unfold minA at hv
  split at hv
  ·cases hx; cases hy
   rename_i k n k' m
   have := minA_sound (mx := mx) (x := x) (a := a) r bs _ _ (Rp.lit (.int k (if mx then (if m > n then m else n) else (if m < n then m else n)))) (by simpa using hl) (fun j y b h1 h2 => hr (j + 1) y b h1 h2) (by cases mx <;> exact hv)
   obtain ⟨v, q, h1, h2, h3⟩ := this
   refine ⟨v, q, ?_, h2, h3⟩
   rw [List.foldlM_cons, Sem.run_bind]
   cases mx
   ·simpa [Builtin.min2] using h1
   ·simpa [Builtin.max2] using h1
  ·exact hv.elim
end

section
variable {base : Nat} {J : Nat -> Nat -> Prop} {w0 : World} {st : St} {μ : Nat -> Nat} {σ : Nat -> Tkt} {w w' : World} {P : Program} {T : Tab} {K : AV -> St -> Prop}

theorem Rp.sl_inv {I : Nat -> Nat -> Prop} {hl : Nat} {tk : List Nat} {t : Tk} {sz : Nat} {es : List (List AV)} {v : Value} (h : Rp w I hl μ tk σ (.sl t sz es) v) :
  (t = .no /\ es = [] /\ ∃ a cap, v = .slice a 0 cap /\ cap <= maxLen) \/ ∃ (g o cap : Nat) (us : Nat -> Nat -> Value), v = .slice (some ⟨g, o, none⟩) es.length cap /\ (∀ (k : Nat) (e : List AV), es[k]? = some e -> e.length = sz /\ e.all AV.flat = true) /\ es.length <= cap /\ cap <= maxLen /\
   (∀ (k : Nat) (e : List AV) (j : Nat) (a : AV), es[k]? = some e -> e[j]? = some a -> I g (o + k * sz + j) /\ w.cell? ⟨g, o + k * sz + j, none⟩ = some (us k j)) /\
   (∀ (k : Nat) (e : List AV) (j : Nat) (a : AV), es[k]? = some e -> e[j]? = some a -> Rp w I hl μ tk σ a (us k j)) /\ (t = .tight -> cap = es.length) /\
   (∀ i e, t = .own i e -> ∃ e0, tk[i]? = some e0 /\ e <= e0 /\ (e = e0 -> cap ≠ es.length -> (σ i).g = g /\ o + es.length * sz = (σ i).endc /\ o + cap * sz = (σ i).capc)) := by
 cases h with
 | sl0 sz a cap hm => exact .inl ⟨rfl, rfl, a, cap, rfl, hm⟩
 | sl t sz es g o cap us hs hn hm hc hr ht1 ht2 => exact .inr ⟨g, o, cap, us, rfl, hs, hn, hm, hc, hr, ht1, ht2⟩

theorem extract_sound {x : AV} {a : Value} {i : Nat} {K1 : AV -> Prop} (hx : At base J st μ σ w x a) (hv : vcExt x i K1) : Pu P w (At base J st μ σ w) (Instr.extract a i) K1 := by
 unfold vcExt at hv
 cases x <;> try exact hv.elim
 case tup vs =>
  simp only at hv
  split at hv
  ·rename_i v hi
   cases hx
   rename_i us h1 hr
   have hj := (List.getElem?_eq_some_iff.1 hi).1
   have hu : us[i]? = some us[i] := Array.getElem?_eq_getElem (by omega)
   exact ⟨us[i], v, by simp [Instr.extract, hu], hv, hr i v _ hi hu⟩
  ·exact hv.elim

theorem nilCheck_sound (h : Ok base J w0 st μ σ w) {ρ : Operand -> AV} {ρc : Operand -> Value} (hρ : ∀ x, At base J st μ σ w (ρ x) (ρc x)) {o : Oper} {x : Operand} (ho : o.op = .nilCheck x)
  (hv : vcOp P T (.nilCheck x) ρ st K) : Fin P (NN base J w0 st μ σ w K) ((execOp ρc o).run P w) := by
 simp only [vcOp] at hv
 have hx := hρ x
 simp only [execOp, ho]
 split at hv
 ·rename_i p off he
  rw [he] at hx
  generalize hv2 : ρc x = v at hx ⊢
  cases hx
  exact NN.same h hv (.ptr p off ‹_›)
 ·rename_i es he
  rw [he] at hx
  generalize hv2 : ρc x = v at hx ⊢
  cases hx
  exact NN.same h hv (.elt _ _ _ _ ‹_› ‹_› ‹_›)
 ·rename_i f us vs he
  rw [he] at hx
  generalize hv2 : ρc x = v at hx ⊢
  cases hx
  exact NN.same h hv (.lit _)
 ·rename_i f us vs he
  rw [he] at hx
  generalize hv2 : ρc x = v at hx ⊢
  cases hx
  exact NN.same h hv (.fn _ _ _ _ _ ‹_› ‹_› ‹_› ‹_›)
 ·exact hv.elim

theorem fieldPlace_run (hT : T.Ok P) {fd : Go.Field} {n : Nat} (hz : (T fd.type).map TI.size = some (n + 1)) (b o : Nat) : (fieldPlace ⟨b, o, none⟩ fd).run P w = .ok ⟨b, o + fd.offset, none⟩ w := by
 obtain ⟨i, hi, hs⟩ := Option.map_eq_some_iff.1 hz
 unfold fieldPlace
 rw [Sem.run_bind, hT.size hi, hs]
 simp [Addr.add_lit]

theorem fieldAddr_sound (hT : T.Ok P) (h : Ok base J w0 st μ σ w) {ρ : Operand -> AV} {ρc : Operand -> Value} (hρ : ∀ x, At base J st μ σ w (ρ x) (ρc x)) {o : Oper} {s : TypeId} {x : Operand} {f : Nat} (ho : o.op = .fieldAddr s x f)
  (hv : vcOp P T (.fieldAddr s x f) ρ st K) : Fin P (NN base J w0 st μ σ w K) ((execOp ρc o).run P w) := by
 simp only [vcOp] at hv
 have hx := hρ x
 simp only [execOp, ho]
 split at hv
 ·rename_i fs hd
  have hu := hT.und hd
  split at hv
  ·rename_i fd hfd
   split at hv
   ·rename_i n hz
    split at hv
    ·rename_i p off he
     rw [he] at hx
     generalize hv2 : ρc x = v at hx ⊢
     cases hx
     refine Pu.fin h ⟨.pointer (some ⟨μ p, off + fd.offset, none⟩), _, ?_, hv, .ptr p _ ‹_›⟩ rfl
     simp [Instr.fieldAt, run_underlying hu, hfd, Instr.sureAddr, fieldPlace_run hT hz]
    ·rename_i es he
     rw [he] at hx
     generalize hv2 : ρc x = v at hx ⊢
     cases hx
     rename_i g o2 us hf hc hr
     refine Pu.fin h ⟨.pointer (some ⟨g, o2 + fd.offset, none⟩), _, ?_, hv, .elt _ g (o2 + fd.offset) (fun j => us (fd.offset + j)) ?_ (fun j a ha => ?_) (fun j a ha => ?_)⟩ rfl
     ·simp [Instr.fieldAt, run_underlying hu, hfd, Instr.sureAddr, fieldPlace_run hT hz]
     ·exact List.all_eq_true.2 fun y hy => List.all_eq_true.1 hf y (List.mem_of_mem_drop hy)
     ·rw [List.getElem?_drop] at ha
      rw [Nat.add_assoc]
      exact hc _ a ha
     ·rw [List.getElem?_drop] at ha
      exact hr _ a ha
    ·exact hv.elim
   ·exact hv.elim
  ·exact hv.elim
 ·exact hv.elim

theorem part_sound (hT : T.Ok P) {t : TypeId} {i : TI} (ht : T t = some i) {cs : List AV} {us : Array Value} {off : Nat} {K1 : AV -> Prop} (h : ldA i cs off K1)
  (h1 : cs.length = us.size) (hr : ∀ (j : Nat) a u, cs[j]? = some a -> us[j]? = some u -> At base J st μ σ w a u) : Pu P w (At base J st μ σ w) (part t us off) K1 := by
 unfold ldA at h
 unfold Pu part
 simp only [Sem.run_bind, hT.isAgg ht, Result.andThen_ok]
 cases hA : isAggD i.desc
 ·rw [hA] at h
  simp only at h
  cases hx : cs[off]? with
  | none => rw [hx] at h; exact h.elim
  | some a =>
   rw [hx] at h
   have hj := (List.getElem?_eq_some_iff.1 hx).1
   have hu : us[off]? = some us[off] := Array.getElem?_eq_getElem (by omega)
   exact ⟨us[off], a, by simp [hu], h, hr off a _ hx hu⟩
 ·rw [hA] at h
  simp only at h
  split at h
  case h_2 => exact h.elim
  rename_i hle
  have hle := of_decide_eq_true hle
  have hk := listK_iff.1 h
  refine ⟨.agg (us.extract off (off + i.size)), _, by simp [hT.size ht], hk, .agg _ _ (by simp; omega) (fun j a u ha hu => ?_)⟩
  have hj : j < i.size := by
   have := (Array.getElem?_eq_some_iff.1 hu).1
   simp at this
   omega
  rw [List.getElem?_take, if_pos hj, List.getElem?_drop] at ha
  refine hr _ a u ha ?_
  rw [Array.getElem?_extract] at hu
  simp at hu
  obtain ⟨_, hu⟩ := hu
  rw [hu]

theorem field_sound (hT : T.Ok P) (h : Ok base J w0 st μ σ w) {ρ : Operand -> AV} {ρc : Operand -> Value} (hρ : ∀ x, At base J st μ σ w (ρ x) (ρc x)) {o : Oper} {s : TypeId} {x : Operand} {f : Nat} (ho : o.op = .field s x f)
  (hv : vcOp P T (.field s x f) ρ st K) : Fin P (NN base J w0 st μ σ w K) ((execOp ρc o).run P w) := by
 simp only [vcOp] at hv
 have hx := hρ x
 simp only [execOp, ho]
 split at hv
 ·rename_i fs hd
  have hu := hT.und hd
  split at hv
  ·rename_i fd hfd
   split at hv
   ·rename_i i hi
    split at hv
    ·rename_i cs he
     rw [he] at hx
     generalize hv2 : ρc x = v at hx ⊢
     cases hx
     rename_i us e1 hr
     obtain ⟨v, r, q1, q2, q3⟩ := part_sound hT hi hv e1 hr
     exact Pu.fin h ⟨v, r, by simp [Instr.field, run_underlying hu, hfd, asAgg, q1], q2, q3⟩ rfl
    ·exact hv.elim
   ·exact hv.elim
  ·exact hv.elim
 ·exact hv.elim

theorem indexAddr_sound (hT : T.Ok P) (h : Ok base J w0 st μ σ w) {ρ : Operand -> AV} {ρc : Operand -> Value} (hρ : ∀ x, At base J st μ σ w (ρ x) (ρc x)) {o : Oper} {t : TypeId} {x ix : Operand} (ho : o.op = .indexAddr t x ix)
  (hv : vcOp P T (.indexAddr t x ix) ρ st K) : Fin P (NN base J w0 st μ σ w K) ((execOp ρc o).run P w) := by
 simp only [vcOp] at hv
 have hx := hρ x
 have hi := hρ ix
 simp only [execOp, ho]
 split at hv
 ·rename_i e hd
  have hu := hT.und hd
  split at hv
  ·rename_i tg sz es he
   rw [he] at hx
   split at hv
   ·rename_i k n hn
    rw [hn] at hi
    split at hv
    ·rename_i hsz
     have hsz := of_decide_eq_true hsz
     obtain ⟨ie, hie, hs⟩ := Option.map_eq_some_iff.1 hsz
     obtain ⟨j, el, hj, hel, hk⟩ := hv
     rw [hi.of_lit]
     generalize hv2 : ρc x = v at hx ⊢
     have hjl := (List.getElem?_eq_some_iff.1 hel).1
     rcases hx.sl_inv with ⟨_, rfl, _⟩ | ⟨g, o2, cap, us, rfl, hs', hn', hm, hc, hr, ht1, ht2⟩
     ·simp at hjl
     ·have hw : (Instr.indexAt t (.slice (some ⟨g, o2, none⟩) es.length cap) (.int k n)).run P w = .ok (.pointer (some ⟨g, o2 + j * sz, none⟩)) w := by
       have c1 : (0 <= n /\ n < (es.length : Int)) := by omega
       have c2 : n.toNat = j := by omega
       simp only [Instr.indexAt, Sem.run_bind, asIntOf, Sem.run_pure, Result.andThen_ok, run_underlying hu, if_pos c1, hT.size hie, hs, c2, Addr.add_lit]
      exact Pu.fin h ⟨_, _, hw, hk, .elt el g (o2 + j * sz) (us j) (hs' j el hel).2 (fun q a ha => hc j el q a hel ha) (fun q a ha => hr j el q a hel ha)⟩ rfl
    ·exact hv.elim
   ·exact hv.elim
  ·rename_i p lo n cap sz he
   rw [he] at hx
   split at hv
   ·rename_i k q hn
    rw [hn] at hi
    split at hv
    ·rename_i hsz
     have hsz := of_decide_eq_true hsz
     obtain ⟨ie, hie, hs⟩ := Option.map_eq_some_iff.1 hsz
     obtain ⟨j, hj, hjl, hk⟩ := hv
     rw [hi.of_lit]
     generalize hv2 : ρc x = v at hx ⊢
     cases hx with
     | hs _ _ _ _ _ hp hnc hm =>
      have hw : (Instr.indexAt t (.slice (some ⟨μ p, lo, none⟩) n cap) (.int k q)).run P w = .ok (.pointer (some ⟨μ p, lo + j * sz, none⟩)) w := by
       have c1 : (0 <= q /\ q < (n : Int)) := by omega
       have c2 : q.toNat = j := by omega
       simp only [Instr.indexAt, Sem.run_bind, asIntOf, Sem.run_pure, Result.andThen_ok, run_underlying hu, if_pos c1, hT.size hie, hs, c2, Addr.add_lit]
      exact Pu.fin h ⟨_, _, hw, hk, .ptr p _ hp⟩ rfl
    ·exact hv.elim
   ·exact hv.elim
  ·exact hv.elim
 ·rename_i na e hd
  have hu := hT.und hd
  split at hv
  ·rename_i p lo he
   rw [he] at hx
   split at hv
   ·rename_i k q hn
    rw [hn] at hi
    split at hv
    ·rename_i sz hsz
     obtain ⟨ie, hie, hs⟩ := Option.map_eq_some_iff.1 hsz
     obtain ⟨j, hj, hjl, hk⟩ := hv
     rw [hi.of_lit]
     generalize hv2 : ρc x = v at hx ⊢
     cases hx with
     | ptr _ _ hp =>
      have hw : (Instr.indexAt t (.pointer (some ⟨μ p, lo, none⟩)) (.int k q)).run P w = .ok (.pointer (some ⟨μ p, lo + j * sz, none⟩)) w := by
       have c1 : (0 <= q /\ q < (na : Int)) := by omega
       have c2 : q.toNat = j := by omega
       simp only [Instr.indexAt, Sem.run_bind, asIntOf, Sem.run_pure, Result.andThen_ok, run_underlying hu, Instr.sureAddr, if_pos c1, hT.size hie, hs, c2, Addr.add_lit]
      exact Pu.fin h ⟨_, _, hw, hk, .ptr p _ hp⟩ rfl
    ·exact hv.elim
   ·exact hv.elim
  ·exact hv.elim
 ·exact hv.elim

theorem index_sound (hT : T.Ok P) (h : Ok base J w0 st μ σ w) {ρ : Operand -> AV} {ρc : Operand -> Value} (hρ : ∀ x, At base J st μ σ w (ρ x) (ρc x)) {o : Oper} {t : TypeId} {x ix : Operand} (ho : o.op = .index t x ix)
  (hv : vcOp P T (.index t x ix) ρ st K) : Fin P (NN base J w0 st μ σ w K) ((execOp ρc o).run P w) := by
 simp only [vcOp] at hv
 have hx := hρ x
 have hi := hρ ix
 simp only [execOp, ho]
 split at hv
 ·rename_i hd
  have hu := hT.und hd
  split at hv
  ·rename_i s he
   rw [he] at hx
   split at hv
   ·rename_i k n hn
    rw [hn] at hi
    obtain ⟨j, hj, hnj, hk⟩ := hv
    rw [hi.of_lit, hx.of_lit]
    have hw : (Instr.index t (.string s) (.int k n)).run P w = .ok (.int .u8 (s[j].toNat : Int)) w := by
     subst hnj
     have c1 : (0 : Int) <= (j : Int) := by omega
     have c3 : s[j]? = some s[j] := getElem?_pos s j hj
     simp [Instr.index, asIntOf, run_underlying hu, c3]
    exact Pu.fin h ⟨_, _, hw, hk, .lit _⟩ rfl
   ·exact hv.elim
  ·exact hv.elim
 ·rename_i n e hd
  have hu := hT.und hd
  split at hv
  ·rename_i i hi2
   split at hv
   ·rename_i cs he
    rw [he] at hx
    split at hv
    ·rename_i k z hn
     rw [hn] at hi
     obtain ⟨j, hnj, hjn, hv⟩ := hv
     have hix := hi.of_lit
     generalize hv2 : ρc x = v at hx ⊢
     cases hx
     rename_i us e1 hr
     obtain ⟨v, r, q1, q2, q3⟩ := part_sound hT hi2 hv e1 hr
     rw [hix]
     subst hnj
     have c1 : (0 : Int) <= (j : Int) := by omega
     have c2 : (j : Int) < (n : Int) := by omega
     exact Pu.fin h ⟨v, r, by simp [Instr.index, asIntOf, run_underlying hu, hT.size hi2, hjn, q1], q2, q3⟩ rfl
    ·exact hv.elim
   ·exact hv.elim
  ·exact hv.elim
 ·exact hv.elim

theorem fill_sound (hT : T.Ok P) {fs : Array Go.Field} {places : Array (Nat × Nat)} (hpl : ∀ (i : Nat) f fi, fs[i]? = some f -> T f.type = some fi -> places[i]? = some (f.offset, fi.size)) :
  ∀ (ps : List (Nat × AV)) (qs : List (Nat × Value)) (cs cs' : List AV) (us : Array Value), ps.length = qs.length -> (∀ (j : Nat) p q, ps[j]? = some p -> qs[j]? = some q -> p.1 = q.1 /\ At base J st μ σ w p.2 q.2) ->
   cs.length = us.size -> (∀ (j : Nat) a u, cs[j]? = some a -> us[j]? = some u -> At base J st μ σ w a u) -> fillA T fs ps cs = some cs' ->
   ∃ us', Instr.fill (places[·]?) us qs = some us' /\ cs'.length = us'.size /\ ∀ (j : Nat) a u, cs'[j]? = some a -> us'[j]? = some u -> At base J st μ σ w a u
 | [], [], cs, cs', us, _, _, h1, h2, hf => by
  simp only [fillA, Option.some.injEq] at hf
  subst hf
  exact ⟨us, rfl, h1, h2⟩
 | [], _ :: _, _, _, _, h, _, _, _, _ => by simp at h
 | _ :: _, [], _, _, _, h, _, _, _, _ => by simp at h
 | (i, v) :: ps, (i', u) :: qs, cs, cs', us, hl, hr, h1, h2, hf => by
  obtain ⟨hii, hvu⟩ := hr 0 _ _ rfl rfl
  simp only at hii hvu
  subst hii
  unfold fillA at hf
  split at hf
  ·cases hf
  ·rename_i f hfi
   split at hf
   ·cases hf
   ·rename_i fi hfi2
    split at hf
    ·rename_i hck
     simp only [Bool.and_eq_true] at hck
     obtain ⟨⟨⟨k1, k2⟩, k3⟩, k4⟩ := hck
     have k1 := of_decide_eq_true k1
     have k2 := of_decide_eq_true k2
     obtain ⟨c1, c2⟩ := hvu.cells k3
     have hp := hpl i f fi hfi hfi2
     have hcond : (u.cells.size ≠ fi.size || decide (f.offset + u.cells.size > us.size)) = false := by
      have e1 : u.cells.size = fi.size := by omega
      have e2 : ¬ (f.offset + u.cells.size > us.size) := by omega
      simp [e1]
      omega
     have key : ∀ (n : Nat), n <= u.cells.size -> ((u.cells.zipIdx.toList.take n).foldl (fun cs (c, j) => cs.setIfInBounds (f.offset + j) c) us).size = us.size /\
       ∀ (q : Nat), ((u.cells.zipIdx.toList.take n).foldl (fun (cs : Array Value) (c, j) => cs.setIfInBounds (f.offset + j) c) us)[q]? = if f.offset <= q /\ q < f.offset + n then u.cells[q - f.offset]? else us[q]? := by
      intro n
      induction n with
      | zero => intro _; exact ⟨rfl, fun q => by rw [if_neg (by omega)]; rfl⟩
      | succ n ih =>
       intro hn
       obtain ⟨i1, i2⟩ := ih (by omega)
       have hz : u.cells.zipIdx.toList[n]? = some (u.cells[n], n) := by
        simp
       have hlen : n < u.cells.zipIdx.toList.length := (List.getElem?_eq_some_iff.1 hz).1
       have htk : u.cells.zipIdx.toList.take (n + 1) = u.cells.zipIdx.toList.take n ++ [(u.cells[n], n)] := by
        rw [List.take_add_one, hz]; rfl
       rw [htk, List.foldl_append]
       refine ⟨by simpa using i1, fun q => ?_⟩
       simp only [List.foldl_cons, List.foldl_nil]
       rw [Array.getElem?_setIfInBounds]
       by_cases e : f.offset + n = q
       ·subst e
        have hin : f.offset + n < us.size := by omega
        rw [if_pos rfl, if_pos (by rw [i1]; exact hin), if_pos (by omega)]
        simp
       ·rw [if_neg e, i2 q]
        by_cases h3 : f.offset <= q /\ q < f.offset + n
        ·rw [if_pos h3, if_pos (by omega)]
        ·rw [if_neg h3, if_neg (by omega)]
     obtain ⟨g1, g2⟩ := key u.cells.size (Nat.le_refl _)
     have hall : u.cells.zipIdx.toList.take u.cells.size = u.cells.zipIdx.toList := List.take_of_length_le (by simp)
     rw [hall] at g1 g2
     have hfold : u.cells.zipIdx.foldl (fun (cs : Array Value) (c, j) => cs.setIfInBounds (f.offset + j) c) us = u.cells.zipIdx.toList.foldl (fun (cs : Array Value) (c, j) => cs.setIfInBounds (f.offset + j) c) us := by rw [<- Array.foldl_toList]
     obtain ⟨us', r1, r2, r3⟩ := fill_sound hT hpl ps qs (setAll cs f.offset v.cells) cs' (u.cells.zipIdx.foldl (fun (cs : Array Value) (c, j) => cs.setIfInBounds (f.offset + j) c) us) (by simpa using hl)
      (fun j p q hp hq => hr (j + 1) p q hp hq) (by rw [setAll_length, hfold, g1, h1]) (fun j a b ha hb => by
       rw [hfold, g2 j] at hb
       rw [setAll_get _ _ _ _ (by omega)] at ha
       by_cases hj : f.offset <= j /\ j < f.offset + v.cells.length
       ·rw [if_pos hj] at ha
        rw [if_pos (by omega)] at hb
        exact c2 _ a b ha hb
       ·rw [if_neg hj] at ha
        rw [if_neg (by omega)] at hb
        exact h2 j a b ha hb) hf
     refine ⟨us', ?_, r2, r3⟩
     simp only [Instr.fill, hp]
     rw [if_neg (by rw [hcond]; decide)]
     exact r1
    ·cases hf
end

theorem div_mul {k sz j : Nat} (hj : j < sz) : (k * sz + j) / sz = k /\ (k * sz + j) % sz = j := by
 constructor
 ·rw [Nat.mul_comm, Nat.mul_add_div (by omega), Nat.div_eq_of_lt hj]; rfl
 ·rw [Nat.mul_comm, Nat.mul_add_mod, Nat.mod_eq_of_lt hj]
theorem lt_mul {k n sz j : Nat} (hk : k < n) (hj : j < sz) : k * sz + j < n * sz := by
 have : (k + 1) * sz <= n * sz := Nat.mul_le_mul_right _ hk
 rw [Nat.add_mul] at this
 omega
theorem split_mul {q n sz : Nat} (h : q < n * sz) : q / sz < n /\ q % sz < sz /\ q / sz * sz + q % sz = q := by
 have hs : 0 < sz := by
  rcases Nat.eq_zero_or_pos sz with e | e
  ·subst e; simp at h
  ·exact e
 exact ⟨Nat.div_lt_of_lt_mul (by rw [Nat.mul_comm]; exact h), Nat.mod_lt _ hs, by rw [Nat.mul_comm]; exact Nat.div_add_mod q sz⟩

/-- the elements' cells in a row -/
def flatL (us : Nat -> Nat -> Value) (n sz : Nat) : List Value := (List.range (n * sz)).map fun q => us (q / sz) (q % sz)
theorem flatL_len (us : Nat -> Nat -> Value) (n sz : Nat) : (flatL us n sz).length = n * sz := by simp [flatL]
theorem flatL_at (us : Nat -> Nat -> Value) {n sz k j : Nat} (hk : k < n) (hj : j < sz) : (flatL us n sz)[k * sz + j]? = some (us k j) := by
 obtain ⟨h1, h2⟩ := div_mul (k := k) hj
 simp [flatL, lt_mul hk hj, h1, h2]
theorem flatL_inv {us : Nat -> Nat -> Value} {n sz q : Nat} {u : Value} (h : (flatL us n sz)[q]? = some u) : ∃ k j, k < n /\ j < sz /\ q = k * sz + j /\ u = us k j := by
 have hl := (List.getElem?_eq_some_iff.1 h).1
 rw [flatL_len] at hl
 obtain ⟨h1, h2, h3⟩ := split_mul hl
 refine ⟨q / sz, q % sz, h1, h2, h3.symm, ?_⟩
 simp [flatL, hl] at h
 exact h.symm

section
variable {base : Nat} {J : Nat -> Nat -> Prop} {w0 : World} {st : St} {μ : Nat -> Nat} {σ : Nat -> Tkt} {w w' : World} {P : Program} {T : Tab} {K : AV -> St -> Prop}

/-- a row of cells holds these elements -/
structure Row (base : Nat) (J : Nat -> Nat -> Prop) (st : St) (μ : Nat -> Nat) (σ : Nat -> Tkt) (w : World) (sz : Nat) (es : List (List AV)) (us : List Value) : Prop where
 len : us.length = es.length * sz
 el : ∀ (k : Nat) (e : List AV), es[k]? = some e -> e.length = sz /\ e.all AV.flat = true
 at' : ∀ (k : Nat) (e : List AV) (j : Nat) (a : AV), es[k]? = some e -> e[j]? = some a -> ∃ u, us[k * sz + j]? = some u /\ At base J st μ σ w a u

theorem Row.one {sz : Nat} {es : List (List AV)} {us : List Value} (h : Row base J st μ σ w sz es us) : ∀ u ∈ us, u.oneCell' = true := by
 intro u hu
 obtain ⟨q, hq⟩ := List.mem_iff_getElem?.1 hu
 have hl := (List.getElem?_eq_some_iff.1 hq).1
 rw [h.len] at hl
 obtain ⟨h1, h2, h3⟩ := split_mul hl
 have he : es[q / sz]? = some es[q / sz] := List.getElem?_eq_getElem h1
 obtain ⟨l1, l2⟩ := h.el _ _ he
 have ha : es[q / sz][q % sz]? = some (es[q / sz][q % sz]'(by omega)) := List.getElem?_eq_getElem (by omega)
 obtain ⟨u', k1, k2⟩ := h.at' _ _ _ _ he ha
 rw [h3, hq] at k1
 cases k1
 exact k2.one (AV.cell_of_flat (List.all_eq_true.1 l2 _ (List.mem_of_getElem? ha)))
theorem Row.append {sz : Nat} {es ys : List (List AV)} {us vs : List Value} (h : Row base J st μ σ w sz es us) (k : Row base J st μ σ w sz ys vs) : Row base J st μ σ w sz (es ++ ys) (us ++ vs) := by
 have hl := h.len
 refine ⟨by simp [h.len, k.len, Nat.add_mul], fun q e he => ?_, fun q e j a he ha => ?_⟩
 ·rw [List.getElem?_append] at he
  split at he
  ·exact h.el _ _ he
  ·exact k.el _ _ he
 ·have hjl := (List.getElem?_eq_some_iff.1 ha).1
  rw [List.getElem?_append] at he
  split at he
  ·rename_i hq
   obtain ⟨u, h1, h2⟩ := h.at' _ _ _ _ he ha
   have := (List.getElem?_eq_some_iff.1 h1).1
   exact ⟨u, by rw [List.getElem?_append_left this]; exact h1, h2⟩
  ·rename_i hq
   obtain ⟨u, h1, h2⟩ := k.at' _ _ _ _ he ha
   refine ⟨u, ?_, h2⟩
   have e : q * sz = es.length * sz + (q - es.length) * sz := by rw [<- Nat.add_mul]; congr 1; omega
   rw [List.getElem?_append_right (by omega), hl, e, show es.length * sz + (q - es.length) * sz + j - es.length * sz = (q - es.length) * sz + j by omega]
   exact h1
theorem Row.ext {st' : St} {μ' : Nat -> Nat} {σ' : Nat -> Tkt} {sz : Nat} {es : List (List AV)} {us : List Value} (h : Row base J st μ σ w sz es us) (x : Ext base J st μ σ w st' μ' σ' w') : Row base J st' μ' σ' w' sz es us :=
 ⟨h.len, h.el, fun k e j a he ha => let ⟨u, h1, h2⟩ := h.at' k e j a he ha; ⟨u, h1, x.at h2⟩⟩

/-- a slice over a row of a block -/
theorem Row.sl {sz : Nat} {es : List (List AV)} {us : List Value} (h : Row base J st μ σ w sz es us) (t : Tk) (g o cap : Nat) (hn : es.length <= cap) (hm : cap <= maxLen)
  (hc : ∀ j u, us[j]? = some u -> Im base J st μ σ g (o + j) /\ w.cell? ⟨g, o + j, none⟩ = some u)
  (ht1 : t = .tight -> cap = es.length)
  (ht2 : ∀ i e, t = .own i e -> ∃ e0, st.tk[i]? = some e0 /\ e <= e0 /\ (e = e0 -> cap ≠ es.length -> (σ i).g = g /\ o + es.length * sz = (σ i).endc /\ o + cap * sz = (σ i).capc)) :
  At base J st μ σ w (.sl t sz es) (.slice (some ⟨g, o, none⟩) es.length cap) := by
 refine .sl t sz es g o cap (fun k j => us.getD (k * sz + j) undef) h.el hn hm (fun k e j a he ha => ?_) (fun k e j a he ha => ?_) ht1 ht2
 ·obtain ⟨u, h1, h2⟩ := h.at' k e j a he ha
  obtain ⟨q1, q2⟩ := hc _ _ h1
  rw [Nat.add_assoc]
  refine ⟨q1, ?_⟩
  rw [q2, List.getD_eq_getElem?_getD, h1]; rfl
 ·obtain ⟨u, h1, h2⟩ := h.at' k e j a he ha
  rw [List.getD_eq_getElem?_getD, h1]
  exact h2

/-- a slice's row -/
theorem Rp.row {sz : Nat} {es : List (List AV)} {g o : Nat} {us : Nat -> Nat -> Value} (hs : ∀ (k : Nat) (e : List AV), es[k]? = some e -> e.length = sz /\ e.all AV.flat = true)
  (hc : ∀ (k : Nat) (e : List AV) (j : Nat) (a : AV), es[k]? = some e -> e[j]? = some a -> Im base J st μ σ g (o + k * sz + j) /\ w.cell? ⟨g, o + k * sz + j, none⟩ = some (us k j))
  (hr : ∀ (k : Nat) (e : List AV) (j : Nat) (a : AV), es[k]? = some e -> e[j]? = some a -> At base J st μ σ w a (us k j)) :
  Row base J st μ σ w sz es (flatL us es.length sz) /\ ∀ j u, (flatL us es.length sz)[j]? = some u -> Im base J st μ σ g (o + j) /\ w.cell? ⟨g, o + j, none⟩ = some u := by
 refine ⟨⟨flatL_len _ _ _, hs, fun k e j a he ha => ⟨us k j, ?_, hr k e j a he ha⟩⟩, fun q u hq => ?_⟩
 ·have h1 := (List.getElem?_eq_some_iff.1 he).1
  have h2 := (List.getElem?_eq_some_iff.1 ha).1
  have h3 := (hs k e he).1
  exact flatL_at us h1 (by omega)
 ·obtain ⟨k, j, hk, hj, rfl, rfl⟩ := flatL_inv hq
  have he : es[k]? = some es[k] := List.getElem?_eq_getElem hk
  have h3 := (hs k _ he).1
  have ha : es[k][j]? = some (es[k][j]'(by omega)) := List.getElem?_eq_getElem (by omega)
  have := hc k _ j _ he ha
  rwa [Nat.add_assoc] at this

theorem Row.nil (sz : Nat) : Row base J st μ σ w sz [] [] := ⟨by simp, fun k e h => by simp at h, fun k e j a h => by simp at h⟩

/-- a variable's cells, read as a row -/
theorem Seen.row {p lo sz : Nat} {cs : List AV} {es : List (List AV)} (hseen : Seen cs lo es.length sz es) (hok : Ok base J w0 st μ σ w) (hcs : st.heap[p]? = some cs) :
  ∃ us, Row base J st μ σ w sz es us /\ ∀ j v, us[j]? = some v -> w.cell? ⟨μ p, lo + j, none⟩ = some v := by
 obtain ⟨_, us, T0, hb, hlen, hr⟩ := hok.hp p cs hcs
 have cellAt : ∀ (k : Nat) (e : List AV) (j : Nat) (a : AV), es[k]? = some e -> e[j]? = some a -> us[lo + k * sz + j]? = some (us.getD (lo + k * sz + j) undef) /\ At base J st μ σ w a (us.getD (lo + k * sz + j) undef) := fun k e j a he ha => by
  have h1 := hseen.at' k e j a he ha
  have h2 := (List.getElem?_eq_some_iff.1 h1).1
  have h3 : us[lo + k * sz + j]? = some (us.getD (lo + k * sz + j) undef) := by
   rw [Array.getD_eq_getD_getElem?, Array.getElem?_eq_getElem (by omega)]; rfl
  exact ⟨h3, (hr _ a _ h1 h3).2.2⟩
 refine ⟨flatL (fun k j => us.getD (lo + k * sz + j) undef) es.length sz, ⟨flatL_len _ _ _, hseen.el, fun k e j a he ha => ?_⟩, fun q v hq => ?_⟩
 ·have h1 := (List.getElem?_eq_some_iff.1 he).1
  have h2 := (List.getElem?_eq_some_iff.1 ha).1
  have h3 := (hseen.el k e he).1
  exact ⟨_, flatL_at _ h1 (by omega), (cellAt k e j a he ha).2⟩
 ·obtain ⟨k, j, hk', hj, rfl, rfl⟩ := flatL_inv hq
  have he : es[k]? = some es[k] := List.getElem?_eq_getElem hk'
  have h3 := (hseen.el k _ he).1
  have ha : es[k][j]? = some (es[k][j]'(by omega)) := List.getElem?_eq_getElem (by omega)
  rw [<- Nat.add_assoc, cell_block hb]
  exact (cellAt k _ j _ he ha).1

/-- what is appended -/
theorem srcA_sound (hok : Ok base J w0 st μ σ w) {x : AV} {xv : Value} {sz : Nat} {tx : TypeId} {K1 : List (List AV) -> Prop} (hx : At base J st μ σ w x xv) (hk : (∃ e', P.underlying tx = some (.slice e')) \/ P.underlying tx = some .string) (hv : srcA st x sz K1) :
  ∃ ys news, K1 ys /\ Row base J st μ σ w sz ys news /\ Src P sz tx xv ys.length news w := by
 unfold srcA at hv
 split at hv
 ·rename_i p lo n cap sz'
  split at hv
  ·rename_i hsz
   have hsz := of_decide_eq_true hsz
   subst hsz
   obtain ⟨cs, es, hcs, hseen, hv⟩ := hv
   obtain rfl := hseen.len
   cases hx with
   | hs _ _ _ _ _ hp hnc hm =>
    obtain ⟨_, us, T0, hb, hlen, hr⟩ := hok.hp p cs hcs
    have cellAt : ∀ (k : Nat) (e : List AV) (j : Nat) (a : AV), es[k]? = some e -> e[j]? = some a -> us[lo + k * sz' + j]? = some (us.getD (lo + k * sz' + j) undef) /\ At base J st μ σ w a (us.getD (lo + k * sz' + j) undef) := fun k e j a he ha => by
     have h1 := hseen.at' k e j a he ha
     have h2 := (List.getElem?_eq_some_iff.1 h1).1
     have h3 : us[lo + k * sz' + j]? = some (us.getD (lo + k * sz' + j) undef) := by
      rw [Array.getD_eq_getD_getElem?, Array.getElem?_eq_getElem (by omega)]; rfl
     exact ⟨h3, (hr _ a _ h1 h3).2.2⟩
    have hrow : Row base J st μ σ w sz' es (flatL (fun k j => us.getD (lo + k * sz' + j) undef) es.length sz') := ⟨flatL_len _ _ _, hseen.el, fun k e j a he ha => by
     have h1 := (List.getElem?_eq_some_iff.1 he).1
     have h2 := (List.getElem?_eq_some_iff.1 ha).1
     have h3 := (hseen.el k e he).1
     exact ⟨_, flatL_at _ h1 (by omega), (cellAt k e j a he ha).2⟩⟩
    have hcc : ∀ j v, (flatL (fun k j => us.getD (lo + k * sz' + j) undef) es.length sz')[j]? = some v -> w.cell? ((⟨μ p, lo, none⟩ : Addr).add j) = some v := fun q v hq => by
     obtain ⟨k, j, hk', hj, rfl, rfl⟩ := flatL_inv hq
     have he : es[k]? = some es[k] := List.getElem?_eq_getElem hk'
     have h3 := (hseen.el k _ he).1
     have ha : es[k][j]? = some (es[k][j]'(by omega)) := List.getElem?_eq_getElem (by omega)
     rw [Addr.add_lit, <- Nat.add_assoc, cell_block hb]
     exact (cellAt k _ j _ he ha).1
    refine ⟨es, _, hv, hrow, hk, fun _ => rfl, ?_, ?_, flatL_len _ _ _, hrow.one⟩
    ·exact run_firstCells_some w sz' es.length ⟨μ p, lo, none⟩ es.length cap _ (flatL_len _ _ _) hcc
    ·exact run_firstCells_some w.drew sz' es.length ⟨μ p, lo, none⟩ es.length cap _ (flatL_len _ _ _) (fun j v h => by rw [World.cell?_drew]; exact hcc j v h)
  ·exact hv.elim
 ·rename_i tg sz' es
  split at hv
  ·rename_i hsz
   have hsz := of_decide_eq_true hsz
   subst hsz
   rcases hx.sl_inv with ⟨_, rfl, a, cap, rfl, hm⟩ | ⟨g, o2, cap, us, rfl, hs', hn', hm, hc, hr, ht1, ht2⟩
   ·refine ⟨[], [], hv, Row.nil _, ?_⟩
    cases a with
    | none => exact ⟨hk, fun _ => rfl, by simp [run_firstCells_none], by simp [run_firstCells_none], by simp, fun _ h => by cases h⟩
    | some a =>
     have q := run_firstCells_some (P := P) w sz' 0 a 0 cap [] (by simp) (fun j v h => by simp at h)
     have q' := run_firstCells_some (P := P) w.drew sz' 0 a 0 cap [] (by simp) (fun j v h => by simp at h)
     exact ⟨hk, fun _ => rfl, q, q', by simp, fun _ h => by cases h⟩
   ·obtain ⟨hrow, hcell⟩ := Rp.row hs' hc hr
    have hcc : ∀ j v, (flatL us es.length sz')[j]? = some v -> w.cell? ((⟨g, o2, none⟩ : Addr).add j) = some v := fun j v h => by rw [Addr.add_lit]; exact (hcell j v h).2
    refine ⟨es, _, hv, hrow, hk, fun _ => rfl, ?_, ?_, flatL_len _ _ _, hrow.one⟩
    ·exact run_firstCells_some w sz' es.length ⟨g, o2, none⟩ es.length cap _ (flatL_len _ _ _) hcc
    ·exact run_firstCells_some w.drew sz' es.length ⟨g, o2, none⟩ es.length cap _ (flatL_len _ _ _) (fun j v h => by rw [World.cell?_drew]; exact hcc j v h)
  ·exact hv.elim
 ·rename_i a cap
  cases hx
  refine ⟨[], [], hv, Row.nil _, ?_⟩
  cases a with
  | none => exact ⟨hk, fun _ => rfl, by simp [run_firstCells_none], by simp [run_firstCells_none], by simp, fun _ h => by cases h⟩
  | some a =>
   have q := run_firstCells_some (P := P) w sz 0 a 0 cap [] (by simp) (fun j v h => by simp at h)
   have q' := run_firstCells_some (P := P) w.drew sz 0 a 0 cap [] (by simp) (fun j v h => by simp at h)
   exact ⟨hk, fun _ => rfl, q, q', by simp, fun _ h => by cases h⟩
 ·rename_i s
  split at hv
  ·rename_i hsz
   have hsz := of_decide_eq_true hsz
   subst hsz
   cases hx
   refine ⟨_, byteCells s, hv, ⟨by simp [byteCells], fun k e he => ?_, fun k e j a he ha => ?_⟩, hk, fun _ => by rw [List.length_map, data_len]; rfl, ?_, ?_, by simp [byteCells], fun u hu => ?_⟩
   ·simp only [List.getElem?_map, Option.map_eq_some_iff] at he
    obtain ⟨b, hb, rfl⟩ := he
    exact ⟨rfl, rfl⟩
   ·simp only [List.getElem?_map, Option.map_eq_some_iff] at he
    obtain ⟨b, hb, rfl⟩ := he
    have : j = 0 := by
     have := (List.getElem?_eq_some_iff.1 ha).1
     simp at this
     exact this
    subst this
    simp at ha
    subst ha
    exact ⟨.int .u8 b.toNat, by simp only [byteCells, List.getElem?_map, Nat.mul_one, Nat.add_zero, hb, Option.map_some], .lit _⟩
   ·rw [List.length_map, data_len]; exact firstCells_string (P := P) s w
   ·rw [List.length_map, data_len]; exact firstCells_string (P := P) s w.drew
   ·obtain ⟨_, _, rfl⟩ := List.mem_map.1 hu
    rfl
  ·exact hv.elim
 ·exact hv.elim

theorem flat_len {sz : Nat} : ∀ {ys : List (List AV)}, (∀ (k : Nat) (e : List AV), ys[k]? = some e -> e.length = sz) -> ys.flatten.length = ys.length * sz
 | [], _ => by simp
 | y :: r, h => by
  rw [List.flatten_cons, List.length_append, flat_len (fun k e he => h (k + 1) e (by simpa using he)), h 0 y rfl, List.length_cons, Nat.add_mul]
  omega
theorem flat_get {sz : Nat} : ∀ {ys : List (List AV)}, (∀ (k : Nat) (e : List AV), ys[k]? = some e -> e.length = sz) -> ∀ (k j : Nat) (e : List AV), ys[k]? = some e -> j < sz -> ys.flatten[k * sz + j]? = e[j]?
 | [], _, k, j, e, he, _ => by simp at he
 | y :: r, h, 0, j, e, he, hj => by
  have hy := h 0 y rfl
  simp at he
  subst he
  rw [List.flatten_cons, Nat.zero_mul, Nat.zero_add, List.getElem?_append_left (by omega)]
 | y :: r, h, k + 1, j, e, he, hj => by
  have hy := h 0 y rfl
  rw [List.flatten_cons, List.getElem?_append_right (by rw [hy, Nat.add_mul]; omega), hy, show (k + 1) * sz + j - sz = k * sz + j by rw [Nat.add_mul]; omega]
  exact flat_get (fun k e he => h (k + 1) e (by simpa using he)) k j e (by simpa using he) hj
theorem zerosL_len (z : List Value) (n : Nat) : (zerosL z n).length = n * z.length := by simp [zerosL]
theorem zerosL_at {z : List Value} {n q : Nat} (hq : q < n * z.length) : (zerosL z n)[q]? = some (.lit (z.getD (q % z.length) undef)) := by simp [zerosL, hq]
theorem zeroCells_at {z : List Value} {n q : Nat} (hq : q < n * z.length) : (Builtin.zeroCells z.toArray n)[q]? = some (z.getD (q % z.length) undef) := by
 have hz : 0 < z.length := Nat.pos_of_ne_zero fun e => by rw [e] at hq; omega
 have hm : q % z.length < z.length := Nat.mod_lt _ hz
 simp [Builtin.zeroCells, hq, List.getD_eq_getElem?_getD, hm]
theorem zero_one {z : List Value} (h : z.all Value.oneCell' = true) {n q : Nat} (hq : q < n * z.length) : (z.getD (q % z.length) undef).oneCell' = true := by
 have hz : 0 < z.length := Nat.pos_of_ne_zero fun e => by rw [e] at hq; omega
 have hm : q % z.length < z.length := Nat.mod_lt _ hz
 rw [List.getD_eq_getElem?_getD, List.getElem?_eq_getElem hm]
 exact List.all_eq_true.1 h _ (List.getElem_mem hm)
/-- a row's cells, and zeros behind them, as a variable's -/
theorem Row.vars {sz : Nat} {ys : List (List AV)} {news : List Value} (hrow : Row base J st μ σ w sz ys news) {z : List Value} (hz : z.all Value.oneCell' = true) (hzl : z.length = sz) (x p : Nat) :
  (ys.flatten ++ zerosL z x).length = (news.toArray ++ Builtin.zeroCells z.toArray x).size /\
  ∀ (j : Nat) a u, (ys.flatten ++ zerosL z x)[j]? = some a -> (news.toArray ++ Builtin.zeroCells z.toArray x)[j]? = some u -> a.cell = true /\ a.old p = true /\ At base J st μ σ w a u := by
 have hel : ∀ (k : Nat) (e : List AV), ys[k]? = some e -> e.length = sz := fun k e he => (hrow.el k e he).1
 have hfl := flat_len hel
 refine ⟨by rw [List.length_append, hfl, zerosL_len, Array.size_append, List.size_toArray, hrow.len]; simp [Builtin.zeroCells], fun q a u ha hu => ?_⟩
 by_cases hq : q < ys.length * sz
 ·rw [List.getElem?_append_left (by omega)] at ha
  rw [Array.getElem?_append_left (by simpa [hrow.len] using hq)] at hu
  obtain ⟨h1, h2, h3⟩ := split_mul hq
  have he : ys[q / sz]? = some ys[q / sz] := List.getElem?_eq_getElem h1
  have := flat_get hel _ _ _ he h2
  rw [h3, ha] at this
  obtain ⟨u', k1, k2⟩ := hrow.at' _ _ _ _ he this.symm
  rw [h3] at k1
  have hu' : news[q]? = some u := by simpa using hu
  rw [hu'] at k1
  cases k1
  have hf := List.all_eq_true.1 (hrow.el _ _ he).2 a (List.mem_of_getElem? this.symm)
  exact ⟨AV.cell_of_flat hf, rfl, k2⟩
 ·rw [List.getElem?_append_right (by omega), hfl] at ha
  have hl : q - ys.length * sz < x * z.length := by
   have := (List.getElem?_eq_some_iff.1 ha).1
   rwa [zerosL_len] at this
  rw [Array.getElem?_append_right (by simp [hrow.len]; omega), List.size_toArray, hrow.len, zeroCells_at hl] at hu
  rw [zerosL_at hl] at ha
  cases ha
  cases hu
  exact ⟨zero_one hz hl, rfl, .lit _⟩

/-- a row of zeros behind a row -/
theorem grown_cells {us : List Value} (z : Array Value) (T0 : TypeId) (j : Nat) (u : Value) (hu : us[j]? = some u) (wd : World) (hw : wd.heap.size = w.heap.size) :
  (wd.alloc (.cells (us.toArray ++ z) T0)).cell? ⟨w.heap.size, j, none⟩ = some u := by
 have hj := (List.getElem?_eq_some_iff.1 hu).1
 rw [cell_block (b := w.heap.size) (by rw [<- hw]; exact heap_alloc_new wd _), Array.getElem?_append_left (by simpa using hj)]
 simpa using hu

theorem vcApp_sound (hT : T.Ok P) (h : Ok base J w0 st μ σ w) {s x : AV} {sv xv : Value} {ty tx e : TypeId} {i : TI} (hty : P.underlying ty = some (.slice e)) (hi : T e = some i)
  (hk : (∃ e', P.underlying tx = some (.slice e')) \/ P.underlying tx = some .string) (hs : At base J st μ σ w s sv) (hx : At base J st μ σ w x xv) (hv : vcApp i s x st K) (tt : TypeId) :
  ∃ v w', (Builtin.append_ #[ty, tx] tt #[sv, xv]).run P w = .ok v w' /\ NN base J w0 st μ σ w K v w' := by
 obtain ⟨_, inf, z, hinf, hz, hzc, hsz, hby, hzl⟩ := hT e i hi
 obtain ⟨ys, news, hv9, hrow, hsrc⟩ := srcA_sound h hx hk hv
 clear hv
 have hv := hv9
 clear hv9
 have hzs : z.cells.size = inf.size := by rw [hzc, hsz, <- hzl]; simp
 have hsrc' : Src P inf.size tx xv ys.length news w := by rw [hsz]; exact hsrc
 -- a new row
 have grow : ∀ (es : List (List AV)) (us : List Value) (b : Option Addr) (cap : Nat), Row base J st μ σ w i.size es us -> sv = .slice b es.length cap -> (Builtin.firstCells inf.size es.length (.slice b es.length cap)).run P w.drew = .ok us.toArray w.drew ->
   cap < es.length + ys.length -> (es.length + ys.length) * i.bytes <= 140737488355328 -> es.length + ys.length <= maxLen ->
   ∃ (cells : Array Value) (c' : Nat), (Builtin.append_ #[ty, tx] tt #[sv, xv]).run P w = .ok (.slice (some ⟨w.heap.size, 0, none⟩) (es.length + ys.length) c') (w.drew.alloc (.cells cells e)) /\ es.length + ys.length <= c' /\ c' <= maxLen /\ c' * i.size = cells.size /\
    ∃ zz, cells = (us ++ news).toArray ++ zz /\ zz = Builtin.zeroCells z.cells (c' - (es.length + ys.length)) := by
  intro es us b cap hr hsv hold hc hb hm
  subst hsv
  have h63 : ((es.length + ys.length : Nat) : Int) <= 9223372036854775807 := by unfold maxLen at hm; omega
  have hrun := run_append_grow_src (P := P) w ty tx tt e inf z hty hinf hz b es.length cap us hold xv ys.length news hsrc' hc h63 (growslice_fits hc (by rw [hby]; exact hb))
  have hge := grownCap_ge w (es.length + ys.length) cap e
  refine ⟨_, _, hrun, hge, grownCap_le_maxLen w _ cap e hm, ?_, _, rfl, rfl⟩
  simp only [Array.size_append, List.size_toArray, size_zeroCells, hzs, List.length_append, hr.len, hrow.len, hsz, <- Nat.add_mul]
  congr 1
  omega
 have none1 : ys = [] -> ∀ (b : Option Addr) (n cap : Nat), sv = .slice b n cap -> n <= cap -> (Builtin.append_ #[ty, tx] tt #[sv, xv]).run P w = .ok sv w := by
  intro hy b n cap hsv hn
  subst hsv
  subst hy
  have : news = [] := List.eq_nil_of_length_eq_zero (by simpa using hrow.len)
  subst this
  exact run_append_nothing (P := P) w ty tx tt e inf hty hinf b n cap hn xv hsrc'
 -- the new row's slice
 have fresh : ∀ (es : List (List AV)) (us : List Value) (cells : Array Value) (c' : Nat), Row base J st μ σ w i.size es us -> es.length + ys.length <= c' -> c' <= maxLen -> c' * i.size = cells.size -> (∃ zz, cells = (us ++ news).toArray ++ zz /\ zz = Builtin.zeroCells z.cells (c' - (es.length + ys.length))) ->
   ∀ (st' : St) (σ' : Nat -> Tkt) (t n : Nat), Ok base J w0 st' μ σ' (w.drew.alloc (.cells cells e)) -> Ext base J st μ σ w st' μ σ' (w.drew.alloc (.cells cells e)) -> st'.tk[t]? = some n -> σ' t = ⟨w.heap.size, (es.length + ys.length) * i.size, c' * i.size⟩ -> st'.heap = st.heap ->
   (∀ t' e', st'.tk[t']? = some e' -> t' ≠ t -> (σ' t').g < w.heap.size) ->
   At base J st' μ σ' (w.drew.alloc (.cells cells e)) (.sl (.own t n) i.size (es ++ ys)) (.slice (some ⟨w.heap.size, 0, none⟩) (es.length + ys.length) c') := by
  intro es us cells c' hr hle hm hcs ⟨zz, hzz, _⟩ st' σ' t n ok' ext' htk hσ hheap hoth
  have hrr := (hr.append hrow).ext ext'
  have := hrr.sl (.own t n) w.heap.size 0 c' (by simpa using hle) hm (fun j u hu => ?_) (fun h => by cases h) (fun i' e' h => ?_)
  ·simpa using this
  ·have hj := (List.getElem?_eq_some_iff.1 hu).1
   rw [(hr.append hrow).len] at hj
   refine ⟨⟨fun hb => ?_, fun p hp => ?_, fun t' e' ht' hg => ?_⟩, ?_⟩
   ·have := h.base_le; omega
   ·rw [hheap] at hp
    have := (h.mu_lt hp).2
    omega
   ·by_cases et : t' = t
    ·subst et
     rw [hσ]
     simpa using hj
    ·have := hoth t' e' ht' et
     omega
   ·rw [Nat.zero_add, hzz]
    exact grown_cells zz e j u hu w.drew rfl
  ·cases h
   exact ⟨n, htk, Nat.le_refl _, fun _ _ => by rw [hσ]; simp⟩
 -- the new row, as a variable
 have grownVar : ∀ (es : List (List AV)) (us : List Value) (cells : Array Value) (c' : Nat), Row base J st μ σ w i.size es us -> i.zero.all Value.oneCell' = true ->
   (Builtin.append_ #[ty, tx] tt #[sv, xv]).run P w = .ok (.slice (some ⟨w.heap.size, 0, none⟩) (es.length + ys.length) c') (w.drew.alloc (.cells cells e)) -> es.length + ys.length <= c' -> c' <= maxLen ->
   (∃ zz, cells = (us ++ news).toArray ++ zz /\ zz = Builtin.zeroCells z.cells (c' - (es.length + ys.length))) ->
   (∀ x, es.length + ys.length + x <= maxLen -> K (.hs st.heap.length 0 (es.length + ys.length) (es.length + ys.length + x) i.size) ⟨st.heap ++ [(es ++ ys).flatten ++ zerosL i.zero x], st.tk⟩) ->
   ∃ v w', (Builtin.append_ #[ty, tx] tt #[sv, xv]).run P w = .ok v w' /\ NN base J w0 st μ σ w K v w' := by
  rintro es us cells c' hr hz1 r1 r2 r3 ⟨zz, hzz, rfl⟩ k3
  obtain ⟨x, rfl⟩ : ∃ x, c' = es.length + ys.length + x := ⟨c' - (es.length + ys.length), by omega⟩
  rw [Nat.add_sub_cancel_left, hzc] at hzz
  obtain ⟨v1, v2⟩ := (hr.append hrow).vars (z := i.zero) hz1 hzl x st.heap.length
  obtain ⟨okd, extd⟩ := h.step (below_drew w)
  rw [<- hzz] at v1 v2
  obtain ⟨ok', ext'⟩ := okd.newVar _ cells e v1 (fun j a u ha hu => by
   obtain ⟨q1, q2, q3⟩ := v2 j a u ha hu
   exact ⟨q1, q2, extd.at q3⟩)
  refine ⟨_, _, r1, _, _, _, _, k3 x r3, ok', extd.trans ext', ?_⟩
  have := Rp.hs (w := w.drew.alloc (.cells cells e)) (I := Im base J ⟨st.heap ++ [(es ++ ys).flatten ++ zerosL i.zero x], st.tk⟩ (upd μ st.heap.length w.drew.heap.size) σ) (hl := st.heap.length + 1) (μ := upd μ st.heap.length w.drew.heap.size) (tk := st.tk) (σ := σ) st.heap.length 0 (es.length + ys.length) (es.length + ys.length + x) i.size (by omega) (by omega) r3
  rw [upd_same] at this
  simpa [At] using this
 split at hv
 ·
  cases hs
  obtain ⟨hv1, hv2⟩ := hv
  by_cases hy : ys = []
  ·exact ⟨_, _, none1 hy _ _ _ rfl (Nat.le_refl _), NN.same h (hv1 hy) (.lit _)⟩
  ·obtain ⟨k1, k2, k3⟩ := hv2 hy
   have hpos : 0 < ys.length := List.length_pos_iff.2 hy
   obtain ⟨cells, c', r1, r2, r3, r4, r5⟩ := grow [] [] none 0 (Row.nil _) rfl (by simp [run_firstCells_none]) (by simpa using hpos) (by simpa using k1) (by simpa using k2)
   obtain ⟨ok', ext'⟩ := h.newTk cells e ys.length (ys.length * i.size) (c' * i.size) (Nat.mul_le_mul_right _ (by simpa using r2)) (by omega) w.drew (.inr rfl)
   rcases k3 with k3 | ⟨hz1, k3⟩
   ·refine ⟨_, _, r1, _, _, _, _, k3, ok', ext', ?_⟩
    have := fresh [] [] cells c' (Row.nil _) r2 r3 r4 r5 _ _ st.tk.length ys.length ok' ext' (by simp) (by rw [upd_same]; simp) rfl (fun t' e' ht' hne => ?_)
    ·simpa using this
    ·have hlt : t' < st.tk.length := by
      have := (List.getElem?_eq_some_iff.1 ht').1
      simp at this
      omega
     rw [upd_ne _ _ hne]
     simp only [List.getElem?_append_left hlt] at ht'
     exact (h.tk_lt ht').2
   ·exact grownVar [] [] cells c' (Row.nil _) hz1 r1 r2 r3 r5 (fun x hx => by simpa using k3 x (by simpa using hx))
 ·
  rename_i p lo n cap sz
  split at hv
  ·rename_i hsz'
   rw [Bool.and_eq_true] at hsz'
   have hz1 := hsz'.2
   have hsz' := of_decide_eq_true hsz'.1
   subst hsz'
   obtain ⟨hv1, hv2⟩ := hv
   cases hs with
   | hs _ _ _ _ _ hp hnc hm =>
    by_cases hy : ys = []
    ·exact ⟨_, _, none1 hy _ _ _ rfl hnc, NN.same h (hv1 hy) (.hs _ _ _ _ _ hp hnc hm)⟩
    ·obtain ⟨k1, k2, cs, es, hcs, hseen, k3, k4⟩ := hv2 hy
     have hpos : 0 < ys.length := List.length_pos_iff.2 hy
     obtain rfl := hseen.len
     obtain ⟨us1, hrow0, hcell0⟩ := hseen.row h hcs
     by_cases hroom : es.length + ys.length <= cap
     ·obtain ⟨q1, q2⟩ := k3 hroom
      obtain ⟨_, us0, T0, hb, hlen0, _⟩ := h.hp p cs hcs
      rw [Nat.add_mul] at q1
      have hnl := hrow.len
      have hrun := run_append_room_src (P := P) w ty tx tt e inf hty hinf (μ p) lo es.length cap xv ys.length news hsrc' hroom
       (fun j hj => by rw [cell_block hb, Array.getElem?_eq_getElem (by rw [<- hlen0, hsz]; omega)]; rfl)
       (fun j hj => by simp [World.frozen?, hb])
      have hel : ∀ (k : Nat) (e : List AV), ys[k]? = some e -> e.length = i.size := fun k e he => (hrow.el k e he).1
      have hfl := flat_len hel
      obtain ⟨v1, v2⟩ := hrow.vars (z := i.zero) hz1 hzl 0 p
      have hz0 : zerosL i.zero 0 = [] := List.eq_nil_of_length_eq_zero (by rw [zerosL_len]; omega)
      have hz2 : Builtin.zeroCells i.zero.toArray 0 = #[] := by simp [Builtin.zeroCells]
      rw [hz0, hz2, List.append_nil, Array.append_empty] at v1 v2
      obtain ⟨ok', ext'⟩ := h.store (p := p) (off := lo + es.length * i.size) (vs := ys.flatten) (us := news) hcs (by rw [hfl, hnl]) (by rw [hfl]; omega) (fun j a u ha hu => v2 j a u ha (by simpa using hu))
      rw [hsz] at hrun
      refine ⟨_, _, hrun, _, _, _, _, q2, ok', ext', ?_⟩
      exact .hs _ _ _ _ _ (by simpa using hp) hroom hm
     ·obtain ⟨cells, c', r1, r2, r3, r4, r5⟩ := grow es _ (some ⟨μ p, lo, none⟩) cap hrow0 rfl (run_firstCells_some w.drew inf.size es.length ⟨μ p, lo, none⟩ es.length cap _ (by rw [hrow0.len, hsz]) (fun j v hjv => by rw [World.cell?_drew, Addr.add_lit]; exact hcell0 j v hjv))
       (by omega) k1 k2
      exact grownVar es _ cells c' hrow0 hz1 r1 r2 r3 r5 (k4 (by omega))
  ·exact hv.elim
 ·
  rename_i sz
  split at hv
  ·rename_i hsz'
   rw [Bool.and_eq_true] at hsz'
   have hz1 := hsz'.2
   have hsz' := of_decide_eq_true hsz'.1
   subst hsz'
   obtain ⟨hv1, hv2⟩ := hv
   rcases hs.sl_inv with ⟨hno, _⟩ | ⟨g, o2, cap, us, rfl, hs', hn', hm, hc, hr, ht1, ht2⟩
   ·cases hno
   ·by_cases hy : ys = []
    ·exact ⟨_, _, none1 hy _ _ _ rfl hn', NN.same h (hv1 hy) hs⟩
    ·obtain ⟨k1, k2, k3⟩ := hv2 hy
     have hpos : 0 < ys.length := List.length_pos_iff.2 hy
     obtain ⟨cells, c', r1, r2, r3, r4, r5⟩ := grow [] [] (some ⟨g, o2, none⟩) cap (Row.nil _) rfl (run_firstCells_some w.drew inf.size 0 ⟨g, o2, none⟩ 0 cap [] (by simp) (fun j v h => by simp at h)) (by have := ht1 rfl; simp at this ⊢; omega) (by simpa using k1) (by simpa using k2)
     rcases k3 with k3 | k3
     ·obtain ⟨ok', ext'⟩ := h.newTk cells e ys.length (ys.length * i.size) (c' * i.size) (Nat.mul_le_mul_right _ (by simpa using r2)) (by omega) w.drew (.inr rfl)
      refine ⟨_, _, r1, _, _, _, _, k3, ok', ext', ?_⟩
      have := fresh [] [] cells c' (Row.nil _) r2 r3 r4 r5 _ _ st.tk.length ys.length ok' ext' (by simp) (by rw [upd_same]; simp) rfl (fun t' e' ht' hne => ?_)
      ·simpa using this
      ·have hlt : t' < st.tk.length := by
        have := (List.getElem?_eq_some_iff.1 ht').1
        simp at this
        omega
       rw [upd_ne _ _ hne]
       simp only [List.getElem?_append_left hlt] at ht'
       exact (h.tk_lt ht').2
     ·exact grownVar [] [] cells c' (Row.nil _) hz1 r1 r2 r3 r5 (fun x hx => by simpa using k3 x (by simpa using hx))
  ·exact hv.elim
 ·
  rename_i sz es _
  split at hv
  ·rename_i hsz'
   have hsz' := of_decide_eq_true hsz'
   subst hsz'
   obtain ⟨hv1, hv2⟩ := hv
   rcases hs.sl_inv with ⟨hno, _⟩ | ⟨g, o2, cap, us, rfl, hs', hn', hm, hc, hr, ht1, ht2⟩
   ·cases hno
   ·by_cases hy : ys = []
    ·exact ⟨_, _, none1 hy _ _ _ rfl hn', NN.same h (hv1 hy) hs⟩
    ·obtain ⟨k1, k2, k3⟩ := hv2 hy
     have hpos : 0 < ys.length := List.length_pos_iff.2 hy
     obtain ⟨hrow0, hcell0⟩ := Rp.row hs' hc hr
     obtain ⟨cells, c', r1, r2, r3, r4, r5⟩ := grow es _ (some ⟨g, o2, none⟩) cap hrow0 rfl (run_firstCells_some w.drew inf.size es.length ⟨g, o2, none⟩ es.length cap _ (by rw [flatL_len, hsz]) (fun j v hjv => by rw [World.cell?_drew, Addr.add_lit]; exact (hcell0 j v hjv).2))
      (by have := ht1 rfl; omega) k1 k2
     obtain ⟨ok', ext'⟩ := h.newTk cells e (es.length + ys.length) ((es.length + ys.length) * i.size) (c' * i.size) (Nat.mul_le_mul_right _ r2) (by omega) w.drew (.inr rfl)
     refine ⟨_, _, r1, _, _, _, _, k3, ok', ext', ?_⟩
     refine fresh es _ cells c' hrow0 r2 r3 r4 r5 _ _ st.tk.length _ ok' ext' (by simp) (by rw [upd_same]) rfl (fun t' e' ht' hne => ?_)
     have hlt : t' < st.tk.length := by
      have := (List.getElem?_eq_some_iff.1 ht').1
      simp at this
      omega
     rw [upd_ne _ _ hne]
     simp only [List.getElem?_append_left hlt] at ht'
     exact (h.tk_lt ht').2
  ·exact hv.elim
 ·
  rename_i t n sz es
  split at hv
  ·rename_i hsz'
   have hsz' := of_decide_eq_true hsz'
   subst hsz'
   obtain ⟨htk, k1, k2, k3⟩ := hv
   have htl : t < st.tk.length := (List.getElem?_eq_some_iff.1 htk).1
   rcases hs.sl_inv with ⟨hno, _⟩ | ⟨g, o2, cap, us, rfl, hs', hn', hm, hc, hr, ht1, ht2⟩
   ·cases hno
   ·obtain ⟨e0, q1, q2, q3⟩ := ht2 t n rfl
    have hen : e0 = n := by rw [htk] at q1; cases q1; rfl
    subst hen
    obtain ⟨hrow0, hcell0⟩ := Rp.row hs' hc hr
    by_cases hy : ys = []
    ·refine ⟨_, _, none1 hy _ _ _ rfl hn', ?_⟩
     subst hy
     have e1 : st.tk.set t (e0 + ([] : List (List AV)).length) = st.tk := by
      apply List.ext_getElem?
      intro q
      rw [List.getElem?_set]
      split
      ·rename_i hq
       subst hq
       first | (rw [htk]; rfl) | (rw [if_pos htl, htk]; rfl)
      ·rfl
     rw [e1, List.append_nil, List.length_nil, Nat.add_zero] at k3
     exact NN.same h k3 hs
    ·have hpos : 0 < ys.length := List.length_pos_iff.2 hy
     by_cases hroom : es.length + ys.length <= cap
     ·obtain ⟨g1, g2, g3⟩ := q3 rfl (by omega)
      obtain ⟨b1, ⟨us0, T0, hb, b2, b3⟩, b4, b5⟩ := h.tkt t e0 htk
      have hle : (es.length + ys.length) * i.size <= cap * i.size := Nat.mul_le_mul_right _ hroom
      rw [Nat.add_mul] at hle
      have hnl := hrow.len
      have hoff : o2 + es.length * inf.size = (σ t).endc := by rw [hsz]; exact g2
      have hrun := run_append_room_src (P := P) w ty tx tt e inf hty hinf g o2 es.length cap xv ys.length news hsrc' hroom
       (fun j hj => by rw [hoff, <- g1, cell_block hb, Array.getElem?_eq_getElem (by omega)]; rfl)
       (fun j hj => by simp [World.frozen?, <- g1, hb])
      obtain ⟨ok', ext'⟩ := h.growTk htk news (e0 + ys.length) (by omega) (by omega)
      rw [hoff, <- g1] at hrun
      rw [<- g1]
      refine ⟨_, _, hrun, _, _, _, _, k3, ok', ext', ?_⟩
      have hcells : ∀ j, j < news.length -> (w.cell? ⟨(σ t).g, (σ t).endc + j, none⟩).isSome = true := fun j hj => by rw [cell_block hb, Array.getElem?_eq_getElem (by omega)]; rfl
      have hrr := (hrow0.append hrow).ext ext'
      have := hrr.sl (.own t (e0 + ys.length)) (σ t).g o2 cap (by simpa using hroom) hm (fun j u hu => ?_) (fun h => by cases h) (fun i' e' h => ?_)
      ·simpa using this
      ·have hj := (List.getElem?_eq_some_iff.1 hu).1
       rw [(hrow0.append hrow).len, List.length_append, Nat.add_mul] at hj
       by_cases hj0 : j < es.length * i.size
       ·rw [List.getElem?_append_left (by rw [hrow0.len]; exact hj0)] at hu
        obtain ⟨c1, c2⟩ := hcell0 j u hu
        rw [<- g1] at c1 c2
        obtain ⟨d1, d2⟩ := ext'.im _ _ c1 (World.block_lt_of_cell? w ⟨(σ t).g, o2 + j, none⟩ c2)
        exact ⟨d1, d2.trans c2⟩
       ·rw [List.getElem?_append_right (by rw [hrow0.len]; omega), hrow0.len] at hu
        have hjn : j - es.length * i.size < news.length := (List.getElem?_eq_some_iff.1 hu).1
        have hin := World.cell?_setCells_in (σ t).g news (σ t).endc w hcells (j - es.length * i.size) hjn
        rw [show (σ t).endc + (j - es.length * i.size) = o2 + j by omega] at hin
        refine ⟨⟨fun hb' => by omega, fun p hp => b4 p hp, fun t' e' ht' hg => ?_⟩, ?_⟩
        ·by_cases et : t' = t
         ·subst et
          rw [upd_same]
          simp
          omega
         ·rw [upd_ne _ _ et] at hg
          have ht'' : st.tk[t']? = some e' := by
           simp only [List.getElem?_set, if_neg (Ne.symm et)] at ht'
           exact ht'
          exact absurd (b5 t' e' ht'' hg.symm) (Ne.symm et)
        ·rw [hin, <- hu, List.getElem?_eq_getElem hjn]
      ·cases h
       refine ⟨e0 + ys.length, by simp [htl], Nat.le_refl _, fun _ _ => ?_⟩
       rw [upd_same]
       refine ⟨rfl, ?_, g3⟩
       simp only [List.length_append, Nat.add_mul]
       omega
     ·obtain ⟨cells, c', r1, r2, r3, r4, r5⟩ := grow es _ (some ⟨g, o2, none⟩) cap hrow0 rfl (run_firstCells_some w.drew inf.size es.length ⟨g, o2, none⟩ es.length cap _ (by rw [flatL_len, hsz]) (fun j v hjv => by rw [World.cell?_drew, Addr.add_lit]; exact (hcell0 j v hjv).2))
       (by omega) k1 k2
      obtain ⟨ok', ext'⟩ := h.moveTk htk cells e (e0 + ys.length) ((es.length + ys.length) * i.size) (c' * i.size) (by omega) (Nat.mul_le_mul_right _ r2) (by omega)
      refine ⟨_, _, r1, _, _, _, _, k3, ok', ext', ?_⟩
      refine fresh es _ cells c' hrow0 r2 r3 r4 r5 _ _ t _ ok' ext' (by simp [htl]) (by rw [upd_same]) rfl (fun t' e' ht' hne => ?_)
      rw [upd_ne _ _ hne]
      simp only [List.getElem?_set, if_neg (Ne.symm hne)] at ht'
      exact (h.tk_lt ht').2
  ·exact hv.elim
 ·exact hv.elim
end
end Go.Proofs.YticbonkojpabnaaGreatDoor
