/- Abstract values of a run, and what it is that a value of the model stands for one: slices read as what they hold, with a ticket for the one that may append. No statement of its own. -/
import Derived.WalkKit
import Derived.Deep.AppendSrc
import Derived.Deep.Draws
import Derived.Deep.Upon
import Derived.IntWalk
import Derived.Test.YtfhodppaelfcfaaDoorLd
namespace Go.Proofs.YtfhodppaelfcfaaDoor
open Go.RowKit

inductive Tk where
  | no
  | tight
  | own (t e : Nat)

inductive AV where
  | top
  | lit (v : Value)
  | sl (t : Tk) (sz : Nat) (es : List (List AV))
  | ptr (p off : Nat)
  | elt (es : List AV)
  | fn (f : Fn) (first captured : List AV)
  | agg (cs : List AV)
  | tup (vs : List AV)
  | hs (p lo n cap sz : Nat)

abbrev AV.int (k : IntKind) (n : Int) : AV := .lit (.int k n)
abbrev AV.i (n : Int) : AV := .lit (.int .i64 n)
abbrev AV.u8 (b : UInt8) : AV := .lit (.int .u8 (b.toNat : Int))
abbrev AV.s (s : ByteArray) : AV := .lit (.string s)
abbrev AV.b (b : Bool) : AV := .lit (.bool b)
abbrev AV.nilS : AV := .lit (.slice none 0 0)
abbrev AV.nilP : AV := .lit (.pointer none)
abbrev AV.un : AV := .lit undef

/-- may it be an element's cell? -/
def AV.flat : AV → Bool
  | .lit v => v.oneCell'
  | .sl .no _ _ => true
  | .sl .tight _ _ => true
  | _ => false
/-- may it be a variable's cell? -/
def AV.cell : AV → Bool
  | .lit v => v.oneCell'
  | .sl _ _ _ => true
  | .ptr _ _ => true
  | .elt _ => true
  | .fn _ _ _ => true
  | .hs _ _ _ _ _ => true
  | _ => false
/-- without a ticket -/
def AV.strip : AV → AV
  | .sl _ sz es => .sl .no sz es
  | a => a
/-- is it data, but for tickets? -/
def AV.dat : AV → Bool
  | .agg cs => cs.all AV.flat
  | a => a.flat
def AV.cells : AV → List AV
  | .agg cs => cs
  | .lit (.agg us) => us.toList.map AV.lit
  | a => [a]
def AV.sized : AV → Bool
  | .top => false
  | .tup _ => false
  | _ => true
/-- all pointers in it are to variables older than p -/
def AV.older (p : Nat) : AV → Bool
  | .ptr q _ => decide (q < p)
  | .hs q _ _ _ _ => decide (q < p)
  | .fn _ _ _ => false
  | _ => true
/-- (nothing is asked of what a variable's cells point to) -/
def AV.old (_ : AV) (_ : Nat) : Bool := true
def AV.ofV : Value → AV
  | .agg us => .agg (us.toList.map AV.lit)
  | v => .lit v

abbrev Fr := List AV
structure St where
  heap : List (List AV)
  tk : List Nat
structure Tkt where
  g : Nat
  endc : Nat
  capc : Nat

/-- the addresses whose cells stay as they are -/
def Im (base : Nat) (J : Nat → Nat → Prop) (st : St) (μ : Nat → Nat) (σ : Nat → Tkt) (g x : Nat) : Prop :=
  (g < base → J g x) ∧ (∀ p, p < st.heap.length → μ p ≠ g) ∧ ∀ t e, st.tk[t]? = some e → (σ t).g = g → x < (σ t).endc

inductive Rp (w : World) (I : Nat → Nat → Prop) (hl : Nat) (μ : Nat → Nat) (tk : List Nat) (σ : Nat → Tkt) : AV → Value → Prop
  | top (v : Value) : Rp w I hl μ tk σ .top v
  | lit (v : Value) : Rp w I hl μ tk σ (.lit v) v
  | sl0 (sz : Nat) (a : Option Addr) (cap : Nat) (hm : cap ≤ maxLen) : Rp w I hl μ tk σ (.sl .no sz []) (.slice a 0 cap)
  | sl (t : Tk) (sz : Nat) (es : List (List AV)) (g o cap : Nat) (us : Nat → Nat → Value) (hs : ∀ (k : Nat) (e : List AV), es[k]? = some e → e.length = sz ∧ e.all AV.flat = true) (hn : es.length ≤ cap) (hm : cap ≤ maxLen)
      (hc : ∀ (k : Nat) (e : List AV) (j : Nat) (a : AV), es[k]? = some e → e[j]? = some a → I g (o + k * sz + j) ∧ w.cell? ⟨g, o + k * sz + j, none⟩ = some (us k j))
      (hr : ∀ (k : Nat) (e : List AV) (j : Nat) (a : AV), es[k]? = some e → e[j]? = some a → Rp w I hl μ tk σ a (us k j))
      (ht1 : t = .tight → cap = es.length)
      (ht2 : ∀ i e, t = .own i e → ∃ e0, tk[i]? = some e0 ∧ e ≤ e0 ∧ (e = e0 → cap ≠ es.length → (σ i).g = g ∧ o + es.length * sz = (σ i).endc ∧ o + cap * sz = (σ i).capc)) :
      Rp w I hl μ tk σ (.sl t sz es) (.slice (some ⟨g, o, none⟩) es.length cap)
  | ptr (p off : Nat) (hp : p < hl) : Rp w I hl μ tk σ (.ptr p off) (.pointer (some ⟨μ p, off, none⟩))
  | elt (es : List AV) (g o : Nat) (us : Nat → Value) (hf : es.all AV.flat = true)
      (hc : ∀ (j : Nat) (a : AV), es[j]? = some a → I g (o + j) ∧ w.cell? ⟨g, o + j, none⟩ = some (us j))
      (hr : ∀ (j : Nat) (a : AV), es[j]? = some a → Rp w I hl μ tk σ a (us j)) :
      Rp w I hl μ tk σ (.elt es) (.pointer (some ⟨g, o, none⟩))
  | fn (f : Fn) (first captured : List AV) (us vs : Array Value) (h1 : first.length = us.size) (h2 : captured.length = vs.size)
      (hr1 : ∀ (j : Nat) (a : AV) (u : Value), first[j]? = some a → us[j]? = some u → Rp w I hl μ tk σ a u)
      (hr2 : ∀ (j : Nat) (a : AV) (u : Value), captured[j]? = some a → vs[j]? = some u → Rp w I hl μ tk σ a u) :
      Rp w I hl μ tk σ (.fn f first captured) (.func f us vs)
  | agg (cs : List AV) (us : Array Value) (h1 : cs.length = us.size) (hr : ∀ (j : Nat) (a : AV) (u : Value), cs[j]? = some a → us[j]? = some u → Rp w I hl μ tk σ a u) : Rp w I hl μ tk σ (.agg cs) (.agg us)
  | tup (cs : List AV) (us : Array Value) (h1 : cs.length = us.size) (hr : ∀ (j : Nat) (a : AV) (u : Value), cs[j]? = some a → us[j]? = some u → Rp w I hl μ tk σ a u) : Rp w I hl μ tk σ (.tup cs) (.tuple us)
  | hs (p lo n cap sz : Nat) (hp : p < hl) (hn : n ≤ cap) (hm : cap ≤ maxLen) : Rp w I hl μ tk σ (.hs p lo n cap sz) (.slice (some ⟨μ p, lo, none⟩) n cap)

/-- What a state says of a world: the variables' maps, the tickets, what was there ahead of the call. -/
structure Ok (base : Nat) (J : Nat → Nat → Prop) (w0 : World) (st : St) (μ : Nat → Nat) (σ : Nat → Tkt) (w : World) : Prop where
  bs : base ≤ w0.heap.size ∧ ∀ w', Below base w0 w' → LaidW w'
  below : Below base w0 w
  hp : ∀ (p : Nat) cs, st.heap[p]? = some cs → base ≤ μ p ∧ ∃ us T, w.heap[μ p]? = some (.cells us T (0, 0)) ∧ cs.length = us.size ∧
    ∀ (j : Nat) a u, cs[j]? = some a → us[j]? = some u → a.cell = true ∧ a.old p = true ∧ Rp w (Im base J st μ σ) st.heap.length μ st.tk σ a u
  inj : ∀ p q, p < st.heap.length → q < st.heap.length → μ p = μ q → p = q
  tkt : ∀ t e, st.tk[t]? = some e → base ≤ (σ t).g ∧ (∃ us T, w.heap[(σ t).g]? = some (.cells us T (0, 0)) ∧ (σ t).capc ≤ us.size ∧ (σ t).endc ≤ (σ t).capc) ∧
    (∀ p, p < st.heap.length → μ p ≠ (σ t).g) ∧ ∀ t' e', st.tk[t']? = some e' → (σ t).g = (σ t').g → t = t'

/-- From one state and world to a later one: what held of a value holds still. -/
structure Ext (base : Nat) (J : Nat → Nat → Prop) (st : St) (μ : Nat → Nat) (σ : Nat → Tkt) (w : World) (st' : St) (μ' : Nat → Nat) (σ' : Nat → Tkt) (w' : World) : Prop where
  hl : st.heap.length ≤ st'.heap.length
  mu : ∀ p, p < st.heap.length → μ' p = μ p
  tk : ∀ t e, st.tk[t]? = some e → ∃ e', st'.tk[t]? = some e' ∧ e ≤ e' ∧ (e = e' → σ' t = σ t)
  im : ∀ g x, Im base J st μ σ g x → g < w.heap.size → Im base J st' μ' σ' g x ∧ w'.cell? ⟨g, x, none⟩ = w.cell? ⟨g, x, none⟩
  sz : w.heap.size ≤ w'.heap.size

/-- a value's standing for an abstract one, at a state -/
abbrev At (base : Nat) (J : Nat → Nat → Prop) (st : St) (μ : Nat → Nat) (σ : Nat → Tkt) (w : World) (a : AV) (v : Value) : Prop :=
  Rp w (Im base J st μ σ) st.heap.length μ st.tk σ a v

section
variable {base : Nat} {J : Nat → Nat → Prop} {st st' st'' : St} {μ μ' μ'' : Nat → Nat} {σ σ' σ'' : Nat → Tkt} {w w' w'' : World}

theorem Ext.refl : Ext base J st μ σ w st μ σ w := ⟨Nat.le_refl _, fun _ _ => rfl, fun _ e h => ⟨e, h, Nat.le_refl _, fun _ => rfl⟩, fun _ _ h _ => ⟨h, rfl⟩, Nat.le_refl _⟩
theorem Ext.trans (h : Ext base J st μ σ w st' μ' σ' w') (k : Ext base J st' μ' σ' w' st'' μ'' σ'' w'') : Ext base J st μ σ w st'' μ'' σ'' w'' := by
  refine ⟨Nat.le_trans h.hl k.hl, fun p hp => (k.mu p (Nat.lt_of_lt_of_le hp h.hl)).trans (h.mu p hp), fun t e he => ?_, fun g x hi hg => ?_, Nat.le_trans h.sz k.sz⟩
  · obtain ⟨e1, h1, h2, h3⟩ := h.tk t e he
    obtain ⟨e2, k1, k2, k3⟩ := k.tk t e1 h1
    refine ⟨e2, k1, Nat.le_trans h2 k2, fun ee => ?_⟩
    have a1 : e = e1 := by omega
    have a2 : e1 = e2 := by omega
    rw [k3 a2, h3 a1]
  · obtain ⟨i1, c1⟩ := h.im g x hi hg
    obtain ⟨i2, c2⟩ := k.im g x i1 (Nat.lt_of_lt_of_le hg h.sz)
    exact ⟨i2, c2.trans c1⟩

theorem Rp.mono {I I' : Nat → Nat → Prop} {hl hl' : Nat} {tk tk' : List Nat} {a : AV} {v : Value} (h : Rp w I hl μ tk σ a v)
    (h1 : hl ≤ hl') (h2 : ∀ p, p < hl → μ' p = μ p) (h3 : ∀ t e, tk[t]? = some e → ∃ e', tk'[t]? = some e' ∧ e ≤ e' ∧ (e = e' → σ' t = σ t))
    (h4 : ∀ g x, I g x → g < w.heap.size → I' g x ∧ w'.cell? ⟨g, x, none⟩ = w.cell? ⟨g, x, none⟩) : Rp w' I' hl' μ' tk' σ' a v := by
  induction h with
  | top v => exact .top v
  | lit v => exact .lit v
  | sl0 sz a cap hm => exact .sl0 sz a cap hm
  | sl t sz es g o cap us hs hn hm hc hr ht1 ht2 ih =>
    refine .sl t sz es g o cap us hs hn hm (fun k e j a he ha => ?_) ih ht1 (fun i e hte => ?_)
    · obtain ⟨hi, hcell⟩ := hc k e j a he ha
      have hlt := World.block_lt_of_cell? w ⟨g, o + k * sz + j, none⟩ hcell
      obtain ⟨hi', hcell'⟩ := h4 g _ hi hlt
      exact ⟨hi', hcell'.trans hcell⟩
    · obtain ⟨e0, q1, q2, q3⟩ := ht2 i e hte
      obtain ⟨e1, k1, k2, k3⟩ := h3 i e0 q1
      refine ⟨e1, k1, Nat.le_trans q2 k2, fun ee => ?_⟩
      have a1 : e = e0 := by omega
      have a2 : e0 = e1 := by omega
      rw [k3 a2]
      exact q3 a1
  | ptr p off hp => rw [← h2 p hp]; exact .ptr p off (Nat.lt_of_lt_of_le hp h1)
  | elt es g o us hf hc hr ih =>
    refine .elt es g o us hf (fun j a ha => ?_) ih
    obtain ⟨hi, hcell⟩ := hc j a ha
    have hlt := World.block_lt_of_cell? w ⟨g, o + j, none⟩ hcell
    obtain ⟨hi', hcell'⟩ := h4 g _ hi hlt
    exact ⟨hi', hcell'.trans hcell⟩
  | fn f first captured us vs e1 e2 hr1 hr2 ih1 ih2 => exact .fn f first captured us vs e1 e2 ih1 ih2
  | agg cs us e1 hr ih => exact .agg cs us e1 ih
  | tup cs us e1 hr ih => exact .tup cs us e1 ih
  | hs p lo n cap sz hp hn hm => rw [← h2 p hp]; exact .hs p lo n cap sz (Nat.lt_of_lt_of_le hp h1) hn hm

theorem Ext.at (x : Ext base J st μ σ w st' μ' σ' w') {a : AV} {v : Value} (h : At base J st μ σ w a v) : At base J st' μ' σ' w' a v := h.mono x.hl x.mu x.tk x.im

theorem Rp.strip {I : Nat → Nat → Prop} {hl : Nat} {tk : List Nat} {a : AV} {v : Value} (h : Rp w I hl μ tk σ a v) : Rp w I hl μ tk σ a.strip v := by
  cases h with
  | sl t sz es g o cap us hs hn hm hc hr ht1 ht2 =>
    exact .sl .no sz es g o cap us hs hn hm hc hr (fun h => by cases h) (fun i e h => by cases h)
  | top v => exact .top v
  | lit v => exact .lit v
  | sl0 sz a cap hm => exact .sl0 sz a cap hm
  | ptr p off hp => exact .ptr p off hp
  | elt es g o us hf hc hr => exact .elt es g o us hf hc hr
  | fn f first captured us vs e1 e2 hr1 hr2 => exact .fn f first captured us vs e1 e2 hr1 hr2
  | agg cs us e1 hr => exact .agg cs us e1 hr
  | tup cs us e1 hr => exact .tup cs us e1 hr
  | hs p lo n cap sz hp hn hm => exact .hs p lo n cap sz hp hn hm

theorem Rp.ofV {I : Nat → Nat → Prop} {hl : Nat} {tk : List Nat} (v : Value) : Rp w I hl μ tk σ (AV.ofV v) v := by
  cases v with
  | agg us =>
    refine .agg _ us (by simp) (fun j a u h1 h2 => ?_)
    simp only [List.getElem?_map, Option.map_eq_some_iff] at h1
    obtain ⟨x, hx, rfl⟩ := h1
    rw [Array.getElem?_toList, h2] at hx
    cases hx
    exact .lit _
  | _ => exact .lit _

theorem Rp.one {I : Nat → Nat → Prop} {hl : Nat} {tk : List Nat} {a : AV} {v : Value} (h : Rp w I hl μ tk σ a v) (hc : a.cell = true) : v.oneCell' = true := by
  cases h <;> first | rfl | exact hc | cases hc
theorem AV.cell_of_flat {a : AV} (h : a.flat = true) : a.cell = true := by
  cases a with
  | sl t sz es => rfl
  | lit v => exact h
  | _ => cases h

/-- the cells of a value -/
theorem Rp.cells {I : Nat → Nat → Prop} {hl : Nat} {tk : List Nat} {a : AV} {v : Value} (h : Rp w I hl μ tk σ a v) (hz : a.sized = true) :
    a.cells.length = v.cells.size ∧ ∀ (j : Nat) x u, a.cells[j]? = some x → v.cells[j]? = some u → Rp w I hl μ tk σ x u := by
  have one : ∀ {a : AV} {v : Value}, Rp w I hl μ tk σ a v → a.cells = [a] → v.cells = #[v] → a.cells.length = v.cells.size ∧ ∀ (j : Nat) x u, a.cells[j]? = some x → v.cells[j]? = some u → Rp w I hl μ tk σ x u := by
    intro a v h e1 e2
    rw [e1, e2]
    refine ⟨rfl, fun j x u hx hu => ?_⟩
    cases j with
    | zero => simp at hx hu; subst hx; subst hu; exact h
    | succ j => simp at hx
  cases h with
  | top v => cases hz
  | tup cs us e1 hr => cases hz
  | agg cs us e1 hr => exact ⟨e1, hr⟩
  | lit v =>
    cases v with
    | agg us =>
      refine ⟨by simp [AV.cells, Value.cells], fun j x u hx hu => ?_⟩
      simp only [AV.cells, List.getElem?_map, Option.map_eq_some_iff] at hx
      obtain ⟨y, hy, rfl⟩ := hx
      have hu' : us[j]? = some u := hu
      rw [Array.getElem?_toList, hu'] at hy
      cases hy
      exact .lit _
    | _ => exact one (.lit _) rfl rfl
  | sl0 sz a cap hm => exact one (.sl0 sz a cap hm) rfl rfl
  | sl t sz es g o cap us hs hn hm hc hr ht1 ht2 => exact one (.sl t sz es g o cap us hs hn hm hc hr ht1 ht2) rfl rfl
  | ptr p off hp => exact one (.ptr p off hp) rfl rfl
  | elt es g o us hf hc hr => exact one (.elt es g o us hf hc hr) rfl rfl
  | fn f first captured us vs e1 e2 hr1 hr2 => exact one (.fn f first captured us vs e1 e2 hr1 hr2) rfl rfl
  | hs p lo n cap sz hp hn hm => exact one (.hs p lo n cap sz hp hn hm) rfl rfl
end
end Go.Proofs.YtfhodppaelfcfaaDoor
