/- Abstract values of a run, and what it is that a value of the model stands for one: slices read as what they hold, with a ticket for the one that may append. No statement of its own. -/
import Derived.WalkKit
import Derived.Deep.AppendSrc
import Derived.Lib.Overlaps
import Derived.Deep.Draws
import Derived.Deep.Upon
import Derived.IntWalk
import Derived.Test.YthnmbfiandpedaaGreatDoorHLd
import Derived.Still
set_option linter.unusedSimpArgs false
set_option linter.unusedVariables false
set_option maxRecDepth 100000
namespace Go.Proofs.YthnmbfiandpedaaGreatDoor
open Go.RowKit

inductive Tk where
  | no
  | tight
  | own (t e : Nat)

inductive AV where
  | top
  | lit (v : Value)
  | sl (t : Tk) (sz : Nat) (es : List (List AV))
  | ptr (p off : Nat)
  | elt (es : List AV)
  | fn (f : Fn) (first captured : List AV)
  | agg (cs : List AV)
  | tup (vs : List AV)
  | hs (p lo n cap sz : Nat)

abbrev AV.int (k : IntKind) (n : Int) : AV := .lit (.int k n)
abbrev AV.i (n : Int) : AV := .lit (.int .i64 n)
abbrev AV.u8 (b : UInt8) : AV := .lit (.int .u8 (b.toNat : Int))
abbrev AV.s (s : ByteArray) : AV := .lit (.string s)
abbrev AV.b (b : Bool) : AV := .lit (.bool b)
abbrev AV.nilS : AV := .lit (.slice none 0 0)
abbrev AV.un : AV := .lit undef

/-- may it be an element's cell? -/
def AV.flat : AV → Bool
  | .lit v => v.oneCell'
  | .sl .no _ _ => true
  | .sl .tight _ _ => true
  | _ => false
/-- may it be a variable's cell? -/
def AV.cell : AV → Bool
  | .lit v => v.oneCell'
  | .sl _ _ _ => true
  | .ptr _ _ => true
  | .elt _ => true
  | .fn _ _ _ => true
  | .hs _ _ _ _ _ => true
  | _ => false
/-- without a ticket -/
def AV.strip : AV → AV
  | .sl _ sz es => .sl .no sz es
  | a => a
/-- is it data, but for tickets? -/
def AV.dat : AV → Bool
  | .agg cs => cs.all AV.flat
  | a => a.flat
def AV.cells : AV → List AV
  | .agg cs => cs
  | .lit (.agg us) => us.toList.map AV.lit
  | a => [a]
def AV.sized : AV → Bool
  | .top => false
  | .tup _ => false
  | _ => true
/-- all pointers in it are to variables older than p -/
def AV.older (p : Nat) : AV → Bool
  | .ptr q _ => decide (q < p)
  | .hs q _ _ _ _ => decide (q < p)
  | .fn _ _ _ => true
  | _ => true
/-- (nothing is asked of what a variable's cells point to) -/
def AV.old (_ : AV) (_ : Nat) : Bool := true
def AV.ofV : Value → AV
  | .agg us => .agg (us.toList.map AV.lit)
  | v => .lit v

abbrev Fr := List AV
structure St where
  heap : List (List AV)
  tk : List Nat
structure Tkt where
  g : Nat
  endc : Nat
  capc : Nat

/-- the addresses whose cells stay as they are -/
def Im (base : Nat) (J : Nat → Nat → Prop) (st : St) (μ : Nat → Nat) (σ : Nat → Tkt) (g x : Nat) : Prop :=
  (g < base → J g x) ∧ (∀ p, p < st.heap.length → μ p ≠ g) ∧ ∀ t e, st.tk[t]? = some e → (σ t).g = g → x < (σ t).endc

inductive Rp (w : World) (I : Nat → Nat → Prop) (hl : Nat) (μ : Nat → Nat) (tk : List Nat) (σ : Nat → Tkt) : AV → Value → Prop
  | top (v : Value) : Rp w I hl μ tk σ .top v
  | lit (v : Value) : Rp w I hl μ tk σ (.lit v) v
  | sl0 (sz : Nat) (a : Option Addr) (cap : Nat) (hm : cap ≤ maxLen) : Rp w I hl μ tk σ (.sl .no sz []) (.slice a 0 cap)
  | sl (t : Tk) (sz : Nat) (es : List (List AV)) (g o cap : Nat) (us : Nat → Nat → Value) (hs : ∀ (k : Nat) (e : List AV), es[k]? = some e → e.length = sz ∧ e.all AV.flat = true) (hn : es.length ≤ cap) (hm : cap ≤ maxLen)
      (hc : ∀ (k : Nat) (e : List AV) (j : Nat) (a : AV), es[k]? = some e → e[j]? = some a → I g (o + k * sz + j) ∧ w.cell? ⟨g, o + k * sz + j, none⟩ = some (us k j))
      (hr : ∀ (k : Nat) (e : List AV) (j : Nat) (a : AV), es[k]? = some e → e[j]? = some a → Rp w I hl μ tk σ a (us k j))
      (ht1 : t = .tight → cap = es.length)
      (ht2 : ∀ i e, t = .own i e → ∃ e0, tk[i]? = some e0 ∧ e ≤ e0 ∧ (e = e0 → cap ≠ es.length → (σ i).g = g ∧ o + es.length * sz = (σ i).endc ∧ o + cap * sz = (σ i).capc)) :
      Rp w I hl μ tk σ (.sl t sz es) (.slice (some ⟨g, o, none⟩) es.length cap)
  | ptr (p off : Nat) (hp : p < hl) : Rp w I hl μ tk σ (.ptr p off) (.pointer (some ⟨μ p, off, none⟩))
  | elt (es : List AV) (g o : Nat) (us : Nat → Value) (hf : es.all AV.flat = true)
      (hc : ∀ (j : Nat) (a : AV), es[j]? = some a → I g (o + j) ∧ w.cell? ⟨g, o + j, none⟩ = some (us j))
      (hr : ∀ (j : Nat) (a : AV), es[j]? = some a → Rp w I hl μ tk σ a (us j)) :
      Rp w I hl μ tk σ (.elt es) (.pointer (some ⟨g, o, none⟩))
  | fn (f : Fn) (first captured : List AV) (us vs : Array Value) (h1 : first.length = us.size) (h2 : captured.length = vs.size)
      (hr1 : ∀ (j : Nat) (a : AV) (u : Value), first[j]? = some a → us[j]? = some u → Rp w I hl μ tk σ a u)
      (hr2 : ∀ (j : Nat) (a : AV) (u : Value), captured[j]? = some a → vs[j]? = some u → Rp w I hl μ tk σ a u) :
      Rp w I hl μ tk σ (.fn f first captured) (.func f us vs)
  | agg (cs : List AV) (us : Array Value) (h1 : cs.length = us.size) (hr : ∀ (j : Nat) (a : AV) (u : Value), cs[j]? = some a → us[j]? = some u → Rp w I hl μ tk σ a u) : Rp w I hl μ tk σ (.agg cs) (.agg us)
  | tup (cs : List AV) (us : Array Value) (h1 : cs.length = us.size) (hr : ∀ (j : Nat) (a : AV) (u : Value), cs[j]? = some a → us[j]? = some u → Rp w I hl μ tk σ a u) : Rp w I hl μ tk σ (.tup cs) (.tuple us)
  | hs (p lo n cap sz : Nat) (hp : p < hl) (hn : n ≤ cap) (hm : cap ≤ maxLen) : Rp w I hl μ tk σ (.hs p lo n cap sz) (.slice (some ⟨μ p, lo, none⟩) n cap)

/-- What a state says of a world: the variables' maps, the tickets, what was there ahead of the call. -/
structure Ok (base : Nat) (J : Nat → Nat → Prop) (w0 : World) (st : St) (μ : Nat → Nat) (σ : Nat → Tkt) (w : World) : Prop where
  bs : base ≤ w0.heap.size ∧ ∀ w', Below base w0 w' → LaidW w'
  below : Below base w0 w
  hp : ∀ (p : Nat) cs, st.heap[p]? = some cs → base ≤ μ p ∧ ∃ us T, w.heap[μ p]? = some (.cells us T (0, 0)) ∧ cs.length = us.size ∧
    ∀ (j : Nat) a u, cs[j]? = some a → us[j]? = some u → a.cell = true ∧ a.old p = true ∧ Rp w (Im base J st μ σ) st.heap.length μ st.tk σ a u
  inj : ∀ p q, p < st.heap.length → q < st.heap.length → μ p = μ q → p = q
  tkt : ∀ t e, st.tk[t]? = some e → base ≤ (σ t).g ∧ (∃ us T, w.heap[(σ t).g]? = some (.cells us T (0, 0)) ∧ (σ t).capc ≤ us.size ∧ (σ t).endc ≤ (σ t).capc) ∧
    (∀ p, p < st.heap.length → μ p ≠ (σ t).g) ∧ ∀ t' e', st.tk[t']? = some e' → (σ t).g = (σ t').g → t = t'

/-- From one state and world to a later one: what held of a value holds still. -/
structure Ext (base : Nat) (J : Nat → Nat → Prop) (st : St) (μ : Nat → Nat) (σ : Nat → Tkt) (w : World) (st' : St) (μ' : Nat → Nat) (σ' : Nat → Tkt) (w' : World) : Prop where
  hl : st.heap.length ≤ st'.heap.length
  mu : ∀ p, p < st.heap.length → μ' p = μ p
  tk : ∀ t e, st.tk[t]? = some e → ∃ e', st'.tk[t]? = some e' ∧ e ≤ e' ∧ (e = e' → σ' t = σ t)
  im : ∀ g x, Im base J st μ σ g x → g < w.heap.size → Im base J st' μ' σ' g x ∧ w'.cell? ⟨g, x, none⟩ = w.cell? ⟨g, x, none⟩
  sz : w.heap.size ≤ w'.heap.size

/-- a value's standing for an abstract one, at a state -/
abbrev At (base : Nat) (J : Nat → Nat → Prop) (st : St) (μ : Nat → Nat) (σ : Nat → Tkt) (w : World) (a : AV) (v : Value) : Prop :=
  Rp w (Im base J st μ σ) st.heap.length μ st.tk σ a v

section
variable {base : Nat} {J : Nat → Nat → Prop} {st st' st'' : St} {μ μ' μ'' : Nat → Nat} {σ σ' σ'' : Nat → Tkt} {w w' w'' : World}

theorem Ext.refl : Ext base J st μ σ w st μ σ w := ⟨Nat.le_refl _, fun _ _ => rfl, fun _ e h => ⟨e, h, Nat.le_refl _, fun _ => rfl⟩, fun _ _ h _ => ⟨h, rfl⟩, Nat.le_refl _⟩
theorem Ext.trans (h : Ext base J st μ σ w st' μ' σ' w') (k : Ext base J st' μ' σ' w' st'' μ'' σ'' w'') : Ext base J st μ σ w st'' μ'' σ'' w'' := by
  refine ⟨Nat.le_trans h.hl k.hl, fun p hp => (k.mu p (Nat.lt_of_lt_of_le hp h.hl)).trans (h.mu p hp), fun t e he => ?_, fun g x hi hg => ?_, Nat.le_trans h.sz k.sz⟩
  · obtain ⟨e1, h1, h2, h3⟩ := h.tk t e he
    obtain ⟨e2, k1, k2, k3⟩ := k.tk t e1 h1
    refine ⟨e2, k1, Nat.le_trans h2 k2, fun ee => ?_⟩
    have a1 : e = e1 := by omega
    have a2 : e1 = e2 := by omega
    rw [k3 a2, h3 a1]
  · obtain ⟨i1, c1⟩ := h.im g x hi hg
    obtain ⟨i2, c2⟩ := k.im g x i1 (Nat.lt_of_lt_of_le hg h.sz)
    exact ⟨i2, c2.trans c1⟩

theorem Rp.mono {I I' : Nat → Nat → Prop} {hl hl' : Nat} {tk tk' : List Nat} {a : AV} {v : Value} (h : Rp w I hl μ tk σ a v)
    (h1 : hl ≤ hl') (h2 : ∀ p, p < hl → μ' p = μ p) (h3 : ∀ t e, tk[t]? = some e → ∃ e', tk'[t]? = some e' ∧ e ≤ e' ∧ (e = e' → σ' t = σ t))
    (h4 : ∀ g x, I g x → g < w.heap.size → I' g x ∧ w'.cell? ⟨g, x, none⟩ = w.cell? ⟨g, x, none⟩) : Rp w' I' hl' μ' tk' σ' a v := by
  induction h with
  | top v => exact .top v
  | lit v => exact .lit v
  | sl0 sz a cap hm => exact .sl0 sz a cap hm
  | sl t sz es g o cap us hs hn hm hc hr ht1 ht2 ih =>
    refine .sl t sz es g o cap us hs hn hm (fun k e j a he ha => ?_) ih ht1 (fun i e hte => ?_)
    · obtain ⟨hi, hcell⟩ := hc k e j a he ha
      have hlt := World.block_lt_of_cell? w ⟨g, o + k * sz + j, none⟩ hcell
      obtain ⟨hi', hcell'⟩ := h4 g _ hi hlt
      exact ⟨hi', hcell'.trans hcell⟩
    · obtain ⟨e0, q1, q2, q3⟩ := ht2 i e hte
      obtain ⟨e1, k1, k2, k3⟩ := h3 i e0 q1
      refine ⟨e1, k1, Nat.le_trans q2 k2, fun ee => ?_⟩
      have a1 : e = e0 := by omega
      have a2 : e0 = e1 := by omega
      rw [k3 a2]
      exact q3 a1
  | ptr p off hp => rw [← h2 p hp]; exact .ptr p off (Nat.lt_of_lt_of_le hp h1)
  | elt es g o us hf hc hr ih =>
    refine .elt es g o us hf (fun j a ha => ?_) ih
    obtain ⟨hi, hcell⟩ := hc j a ha
    have hlt := World.block_lt_of_cell? w ⟨g, o + j, none⟩ hcell
    obtain ⟨hi', hcell'⟩ := h4 g _ hi hlt
    exact ⟨hi', hcell'.trans hcell⟩
  | fn f first captured us vs e1 e2 hr1 hr2 ih1 ih2 => exact .fn f first captured us vs e1 e2 ih1 ih2
  | agg cs us e1 hr ih => exact .agg cs us e1 ih
  | tup cs us e1 hr ih => exact .tup cs us e1 ih
  | hs p lo n cap sz hp hn hm => rw [← h2 p hp]; exact .hs p lo n cap sz (Nat.lt_of_lt_of_le hp h1) hn hm

theorem Ext.at (x : Ext base J st μ σ w st' μ' σ' w') {a : AV} {v : Value} (h : At base J st μ σ w a v) : At base J st' μ' σ' w' a v := h.mono x.hl x.mu x.tk x.im

theorem Rp.strip {I : Nat → Nat → Prop} {hl : Nat} {tk : List Nat} {a : AV} {v : Value} (h : Rp w I hl μ tk σ a v) : Rp w I hl μ tk σ a.strip v := by
  cases h with
  | sl t sz es g o cap us hs hn hm hc hr ht1 ht2 =>
    exact .sl .no sz es g o cap us hs hn hm hc hr (fun h => by cases h) (fun i e h => by cases h)
  | top v => exact .top v
  | lit v => exact .lit v
  | sl0 sz a cap hm => exact .sl0 sz a cap hm
  | ptr p off hp => exact .ptr p off hp
  | elt es g o us hf hc hr => exact .elt es g o us hf hc hr
  | fn f first captured us vs e1 e2 hr1 hr2 => exact .fn f first captured us vs e1 e2 hr1 hr2
  | agg cs us e1 hr => exact .agg cs us e1 hr
  | tup cs us e1 hr => exact .tup cs us e1 hr
  | hs p lo n cap sz hp hn hm => exact .hs p lo n cap sz hp hn hm

theorem Rp.ofV {I : Nat → Nat → Prop} {hl : Nat} {tk : List Nat} (v : Value) : Rp w I hl μ tk σ (AV.ofV v) v := by
  cases v with
  | agg us =>
    refine .agg _ us (by simp) (fun j a u h1 h2 => ?_)
    simp only [List.getElem?_map, Option.map_eq_some_iff] at h1
    obtain ⟨x, hx, rfl⟩ := h1
    rw [Array.getElem?_toList, h2] at hx
    cases hx
    exact .lit _
  | _ => exact .lit _

theorem Rp.one {I : Nat → Nat → Prop} {hl : Nat} {tk : List Nat} {a : AV} {v : Value} (h : Rp w I hl μ tk σ a v) (hc : a.cell = true) : v.oneCell' = true := by
  cases h <;> first | rfl | exact hc | cases hc
theorem AV.cell_of_flat {a : AV} (h : a.flat = true) : a.cell = true := by
  cases a with
  | sl t sz es => rfl
  | lit v => exact h
  | _ => cases h

/-- the cells of a value -/
theorem Rp.cells {I : Nat → Nat → Prop} {hl : Nat} {tk : List Nat} {a : AV} {v : Value} (h : Rp w I hl μ tk σ a v) (hz : a.sized = true) :
    a.cells.length = v.cells.size ∧ ∀ (j : Nat) x u, a.cells[j]? = some x → v.cells[j]? = some u → Rp w I hl μ tk σ x u := by
  have one : ∀ {a : AV} {v : Value}, Rp w I hl μ tk σ a v → a.cells = [a] → v.cells = #[v] → a.cells.length = v.cells.size ∧ ∀ (j : Nat) x u, a.cells[j]? = some x → v.cells[j]? = some u → Rp w I hl μ tk σ x u := by
    intro a v h e1 e2
    rw [e1, e2]
    refine ⟨rfl, fun j x u hx hu => ?_⟩
    cases j with
    | zero => simp at hx hu; subst hx; subst hu; exact h
    | succ j => simp at hx
  cases h with
  | top v => cases hz
  | tup cs us e1 hr => cases hz
  | agg cs us e1 hr => exact ⟨e1, hr⟩
  | lit v =>
    cases v with
    | agg us =>
      refine ⟨by simp [AV.cells, Value.cells], fun j x u hx hu => ?_⟩
      simp only [AV.cells, List.getElem?_map, Option.map_eq_some_iff] at hx
      obtain ⟨y, hy, rfl⟩ := hx
      have hu' : us[j]? = some u := hu
      rw [Array.getElem?_toList, hu'] at hy
      cases hy
      exact .lit _
    | _ => exact one (.lit _) rfl rfl
  | sl0 sz a cap hm => exact one (.sl0 sz a cap hm) rfl rfl
  | sl t sz es g o cap us hs hn hm hc hr ht1 ht2 => exact one (.sl t sz es g o cap us hs hn hm hc hr ht1 ht2) rfl rfl
  | ptr p off hp => exact one (.ptr p off hp) rfl rfl
  | elt es g o us hf hc hr => exact one (.elt es g o us hf hc hr) rfl rfl
  | fn f first captured us vs e1 e2 hr1 hr2 => exact one (.fn f first captured us vs e1 e2 hr1 hr2) rfl rfl
  | hs p lo n cap sz hp hn hm => exact one (.hs p lo n cap sz hp hn hm) rfl rfl
end

structure TI where
  desc : TypeDesc
  size : Nat
  bytes : Nat
  zero : List Value
abbrev Tab := TypeId → Option TI
def isAggD : TypeDesc → Bool
  | .struct _ => true
  | .array _ _ => true
  | _ => false

def cnd (b : Bool) (A B : Prop) : Prop := match b with | true => A | false => B
theorem cnd_split {b : Bool} {A B : Prop} (h1 : b = true → A) (h2 : b = false → B) : cnd b A B := by
  cases b
  · exact h2 rfl
  · exact h1 rfl

/-- the value, looked at -/
def AV.fc (a : AV) (K : AV → Prop) : Prop :=
  match a with
  | .top => K .top
  | .lit v => K (.lit v)
  | .sl t sz es => K (.sl t sz es)
  | .ptr p off => K (.ptr p off)
  | .elt es => K (.elt es)
  | .fn f us vs => K (.fn f us vs)
  | .agg cs => K (.agg cs)
  | .tup vs => K (.tup vs)
  | .hs p lo n cap sz => K (.hs p lo n cap sz)
theorem AV.fc_iff {a : AV} {K : AV → Prop} : a.fc K ↔ K a := by cases a <;> rfl
/-- the values of a list, looked at -/
def listK : List AV → (List AV → Prop) → Prop
  | [], K => K []
  | a :: r, K => a.fc fun a' => listK r fun r' => K (a' :: r')
theorem listK_iff : ∀ {l : List AV} {K : List AV → Prop}, listK l K ↔ K l
  | [], _ => Iff.rfl
  | a :: r, K => by
    unfold listK
    rw [AV.fc_iff]
    exact listK_iff
def listLK : List (List AV) → (List (List AV) → Prop) → Prop
  | [], K => K []
  | a :: r, K => listK a fun a' => listLK r fun r' => K (a' :: r')
theorem listLK_iff : ∀ {l : List (List AV)} {K : List (List AV) → Prop}, listLK l K ↔ K l
  | [], _ => Iff.rfl
  | a :: r, K => by
    unfold listLK
    rw [listK_iff]
    exact listLK_iff
def setK : Fr → Nat → AV → (Fr → Prop) → Prop
  | [], _, _, K => K []
  | _ :: r, 0, v, K => K (v :: r)
  | a :: r, n + 1, v, K => setK r n v fun r' => K (a :: r')
theorem setK_iff : ∀ {fr : Fr} {i : Nat} {v : AV} {K : Fr → Prop}, setK fr i v K ↔ K (fr.set i v)
  | [], _, _, _ => Iff.rfl
  | _ :: _, 0, _, _ => Iff.rfl
  | a :: r, n + 1, v, K => by
    unfold setK
    exact setK_iff

/-- the variables that were are as they were -/
def Pre (st st' : St) : Prop := ∃ l, st'.heap = st.heap ++ l
theorem Pre.refl (st : St) : Pre st st := ⟨[], by simp⟩
theorem Pre.trans {a b c : St} (h : Pre a b) (g : Pre b c) : Pre a c := by
  obtain ⟨l, h⟩ := h
  obtain ⟨m, g⟩ := g
  exact ⟨l ++ m, by rw [g, h, List.append_assoc]⟩
theorem Pre.at' {a b : St} (h : Pre a b) {p : Nat} {cs : List AV} (hp : a.heap[p]? = some cs) : b.heap[p]? = some cs := by
  obtain ⟨l, h⟩ := h
  rw [h, List.getElem?_append_left (List.getElem?_eq_some_iff.1 hp).1]
  exact hp

def setAll : List AV → Nat → List AV → List AV
  | cs, _, [] => cs
  | cs, off, v :: vs => setAll (cs.set off v) (off + 1) vs

def binInt (op : BinOp) (k : IntKind) (a b : Int) (K : AV → Prop) : Prop :=
  match op with
  | .add => ∀ c, c = k.wrap (a + b) → K (.int k c)
  | .sub => ∀ c, c = k.wrap (a - b) → K (.int k c)
  | .mul => ∀ c, c = k.wrap (a * b) → K (.int k c)
  | .quo => b ≠ 0 ∧ ∀ c, c = k.wrap (a.tdiv b) → K (.int k c)
  | .rem => b ≠ 0 ∧ K (.int k (a.tmod b))
  | .eql => K (.b (a == b))
  | .neq => K (.b (a != b))
  | .lss => K (.b (decide (a < b)))
  | .leq => K (.b (decide (a ≤ b)))
  | .gtr => K (.b (decide (a > b)))
  | .geq => K (.b (decide (a ≥ b)))
  | .and => ∀ c, c = k.wrap ((BitVec.ofInt k.bits a &&& BitVec.ofInt k.bits b).toNat : Int) → K (.int k c)
  | .shr => 0 ≤ b ∧ ∀ c, c = a.fdiv (2 ^ min b.toNat k.bits) → K (.int k c)
  | .shl => 0 ≤ b ∧ ∀ c, c = k.wrap (a * 2 ^ min b.toNat k.bits) → K (.int k c)
  | _ => False
def binStr (op : BinOp) (a b : ByteArray) (K : AV → Prop) : Prop :=
  match op with
  | .add => a.size + b.size ≤ maxLen ∧ K (.s (a ++ b))
  | .eql => ∀ t : Bool, (t = true ↔ a = b) → K (.b t)
  | .neq => ∀ t : Bool, (t = false ↔ a = b) → K (.b t)
  | .lss => K (.b (Op.bytesLess a.toList b.toList))
  | .gtr => ∀ t : Bool, t = (!(Op.bytesLess a.toList b.toList || a.toList == b.toList)) → K (.b t)
  | .leq => ∀ t : Bool, t = (Op.bytesLess a.toList b.toList || a.toList == b.toList) → K (.b t)
  | .geq => K (.b (!(Op.bytesLess a.toList b.toList)))
  | _ => False
def eqlB (op : BinOp) (t : Bool) (K : AV → Prop) : Prop :=
  match op with
  | .eql => K (.b t)
  | .neq => K (.b (!t))
  | _ => False
/-- two plain values of a type are the same -/
def cellEq (d : Option TypeDesc) (x y : Option AV) : Option Prop :=
  match d, x, y with
  | some (.int _), some (.lit (.int k a)), some (.lit (.int k' b)) => match decide (k = k') with | true => some (a = b) | false => none
  | some .string, some (.lit (.string a)), some (.lit (.string b)) => some (a = b)
  | some .bool, some (.lit (.bool a)), some (.lit (.bool b)) => some (a = b)
  | _, _, _ => none
def cellsEq (T : Tab) (cs ds : List AV) : List Go.Field → Option Prop
  | [] => some True
  | f :: fs => match f.name == "_", cellEq ((T f.type).map TI.desc) cs[f.offset]? ds[f.offset]? with
    | false, some A => match cellsEq T cs ds fs with
      | some B => some (A ∧ B)
      | none => none
    | _, _ => none
/-- a shift: its count may be of another kind -/
def isSh : BinOp → Bool
  | .shl => true
  | .shr => true
  | _ => false
def vcBin (P : Program) (T : Tab) (op : BinOp) (t : TypeId) (x y : AV) (K : AV → Prop) : Prop :=
  match x, y with
  | .agg cs, .agg ds => match (T t).map TI.desc with
    | some (.struct fs) => (P.stoodInHeld t || P.eqGuardType P.depth t) = false ∧ match cellsEq T cs ds fs.toList with
      | some A => ∀ q : Bool, (q = true ↔ A) → eqlB op q K
      | none => False
    | _ => False
  | .lit (.int k a), .lit (.int k' b) => match decide (k = k') with | true => binInt op k a b K | false => match isSh op with | true => binInt op k a b K | false => False
  | .lit (.string a), .lit (.string b) => binStr op a b K
  | .lit (.bool a), .lit (.bool b) => match (T t).map TI.desc with | some .bool => eqlB op (a == b) K | _ => False
  | .ptr _ _, .lit (.pointer none) => match (T t).map TI.desc with | some (.pointer _) => eqlB op false K | _ => False
  | .lit (.pointer none), .lit (.pointer none) => match (T t).map TI.desc with | some (.pointer _) => eqlB op true K | _ => False
  | .lit (.slice none _ _), .lit (.slice none _ _) => match (T t).map TI.desc with | some (.slice _) => eqlB op true K | _ => False
  | .hs _ _ _ _ _, .lit (.slice none _ _) => match (T t).map TI.desc with | some (.slice _) => eqlB op false K | _ => False
  | .lit (.slice (some _) _ _), .lit (.slice none _ _) => match (T t).map TI.desc with | some (.slice _) => eqlB op false K | _ => False
  | .sl _ _ (_ :: _), .lit (.slice none _ _) => match (T t).map TI.desc with | some (.slice _) => eqlB op false K | _ => False
  | .sl .tight _ [], .lit (.slice none _ _) => match (T t).map TI.desc with | some (.slice _) => eqlB op false K | _ => False
  | .lit .nilFunc, .lit .nilFunc => match (T t).map TI.desc with | some (.func _ _ _) => eqlB op true K | _ => False
  | .lit (.func _ _ _), .lit .nilFunc => match (T t).map TI.desc with | some (.func _ _ _) => eqlB op false K | _ => False
  | .fn _ _ _, .lit .nilFunc => match (T t).map TI.desc with | some (.func _ _ _) => eqlB op false K | _ => False
  | _, _ => False
/-- a test against the literal nil of an interface -/
def isNilI : Operand → Bool
  | .const .nilIface => true
  | _ => false
def vcNilI (P : Program) (op : BinOp) (t : TypeId) (x y : AV) (K : AV → Prop) : Prop :=
  (∃ ms, P.underlying t = some (.interface ms)) ∧ match x, y with
  | .lit .nilIface, .lit .nilIface => eqlB op true K
  | .lit (.iface _ _), .lit .nilIface => eqlB op false K
  | _, _ => False
def vcUn (op : UnOp) (x : AV) (K : AV → Prop) : Prop :=
  match op, x with
  | .not, .lit (.bool b) => K (.b (!b))
  | .neg, .lit (.int k n) => ∀ c, c = k.wrap (0 - n) → K (.int k c)
  | _, _ => False

/-- a part of a variable -/
def ldA (i : TI) (cs : List AV) (off : Nat) (K : AV → Prop) : Prop :=
  match isAggD i.desc with
  | true => match decide (off + i.size ≤ cs.length) with | true => listK ((cs.drop off).take i.size) fun vs => K (.agg vs) | false => False
  | false => match cs[off]? with | some c => K c | none => False

def fieldsIn (T : Tab) (fs : Array Go.Field) : Bool := fs.toList.all fun f => (T f.type).isSome
def fillA (T : Tab) (fs : Array Go.Field) : List (Nat × AV) → List AV → Option (List AV)
  | [], cs => some cs
  | (i, v) :: r, cs =>
    match fs[i]? with
    | none => none
    | some f => match T f.type with
      | none => none
      | some fi => match decide (v.cells.length = fi.size) && decide (f.offset + fi.size ≤ cs.length) && v.sized && v.cells.all AV.cell with
        | true => fillA T fs r (setAll cs f.offset v.cells)
        | false => none
def fillR (sz : Nat) : List (Nat × AV) → List AV → Option (List AV)
  | [], cs => some cs
  | (i, v) :: r, cs => match decide (v.cells.length = sz) && decide (i * sz + sz ≤ cs.length) && v.sized && v.cells.all AV.cell with
    | true => fillR sz r (setAll cs (i * sz) v.cells)
    | false => none
def fillE (sz : Nat) : List (Nat × AV) → List (List AV) → Option (List (List AV))
  | [], es => some es
  | (i, v) :: r, es =>
    match decide (i < es.length) && decide (v.cells.length = sz) && v.sized && (v.cells.map AV.strip).all AV.flat with
    | true => fillE sz r (es.set i (v.cells.map AV.strip))
    | false => none

def vcExt (x : AV) (i : Nat) (K : AV → Prop) : Prop :=
  match x with
  | .tup vs => match vs[i]? with | some v => K v | none => False
  | _ => False
def vcLenS (x : AV) (K : AV → Prop) : Prop :=
  match x with
  | .lit (.string s) => K (.i s.size)
  | _ => False
def vcLenL (x : AV) (K : AV → Prop) : Prop :=
  match x with
  | .sl _ _ es => K (.i es.length)
  | .lit (.slice none n _) => K (.i n)
  | .hs _ _ n _ _ => K (.i n)
  | _ => False

/-- so many elements that are zero -/
def zerosL (z : List Value) (n : Nat) : List AV := (List.range (n * z.length)).map fun q => .lit (z.getD (q % z.length) undef)
/-- a variable's cells, read as a row -/
structure Seen (cs : List AV) (lo n sz : Nat) (es : List (List AV)) : Prop where
  len : es.length = n
  el : ∀ (k : Nat) (e : List AV), es[k]? = some e → e.length = sz ∧ e.all AV.flat = true
  at' : ∀ (k : Nat) (e : List AV) (j : Nat) (a : AV), es[k]? = some e → e[j]? = some a → cs[lo + k * sz + j]? = some a

/-- what is appended -/
def srcA (st : St) (x : AV) (sz : Nat) (K : List (List AV) → Prop) : Prop :=
  match x with
  | .hs p lo n _ sz' => match decide (sz' = sz) with | true => ∃ cs es, st.heap[p]? = some cs ∧ Seen cs lo n sz es ∧ K es | false => False
  | .sl _ sz' es => match decide (sz' = sz) with | true => K es | false => False
  | .lit (.slice _ 0 _) => K []
  | .lit (.string s) => match decide (sz = 1) with | true => K (s.data.toList.map fun b => [AV.u8 b]) | false => False
  | _ => False
def vcApp (i : TI) (s x : AV) (st : St) (K : AV → St → Prop) : Prop :=
  srcA st x i.size fun ys =>
  match s with
  | .lit (.slice none 0 0) => (ys = [] → K s st) ∧ (ys ≠ [] → ys.length * i.bytes ≤ 140737488355328 ∧ ys.length ≤ maxLen ∧ (K (.sl (.own st.tk.length ys.length) i.size ys) ⟨st.heap, st.tk ++ [ys.length]⟩ ∨ (i.zero.all Value.oneCell' = true ∧ ∀ x, ys.length + x ≤ maxLen → K (.hs st.heap.length 0 ys.length (ys.length + x) i.size) ⟨st.heap ++ [ys.flatten ++ zerosL i.zero x], st.tk⟩)))
  | .hs p lo n cap sz => match decide (sz = i.size) && i.zero.all Value.oneCell' with
    | true => (ys = [] → K s st) ∧ (ys ≠ [] → (n + ys.length) * i.bytes ≤ 140737488355328 ∧ n + ys.length ≤ maxLen ∧ ∃ cs es, st.heap[p]? = some cs ∧ Seen cs lo n sz es ∧
      (n + ys.length ≤ cap → lo + (n + ys.length) * sz ≤ cs.length ∧ K (.hs p lo (n + ys.length) cap sz) ⟨st.heap.set p (setAll cs (lo + n * sz) ys.flatten), st.tk⟩) ∧
      (cap < n + ys.length → ∀ x, n + ys.length + x ≤ maxLen → K (.hs st.heap.length 0 (n + ys.length) (n + ys.length + x) sz) ⟨st.heap ++ [(es ++ ys).flatten ++ zerosL i.zero x], st.tk⟩))
    | false => False
  | .sl .tight sz [] => match decide (sz = i.size) && i.zero.all Value.oneCell' with
    | true => (ys = [] → K s st) ∧ (ys ≠ [] → ys.length * i.bytes ≤ 140737488355328 ∧ ys.length ≤ maxLen ∧ (K (.sl (.own st.tk.length ys.length) i.size ys) ⟨st.heap, st.tk ++ [ys.length]⟩ ∨ ∀ x, ys.length + x ≤ maxLen → K (.hs st.heap.length 0 ys.length (ys.length + x) sz) ⟨st.heap ++ [ys.flatten ++ zerosL i.zero x], st.tk⟩))
    | false => False
  | .sl .tight sz es => match decide (sz = i.size) with
    | true => (ys = [] → K s st) ∧ (ys ≠ [] → (es.length + ys.length) * i.bytes ≤ 140737488355328 ∧ es.length + ys.length ≤ maxLen ∧ K (.sl (.own st.tk.length (es.length + ys.length)) i.size (es ++ ys)) ⟨st.heap, st.tk ++ [es.length + ys.length]⟩)
    | false => False
  | .sl (.own t e) sz es => match decide (sz = i.size) with
    | true => st.tk[t]? = some e ∧ (es.length + ys.length) * i.bytes ≤ 140737488355328 ∧ es.length + ys.length ≤ maxLen ∧ K (.sl (.own t (e + ys.length)) i.size (es ++ ys)) ⟨st.heap, st.tk.set t (e + ys.length)⟩
    | false => False
  | _ => False

/-- what is copied: not more than so many elements -/
def cpSrc (st : St) (x : AV) (sz n : Nat) (K : List (List AV) → Prop) : Prop :=
  match x with
  | .hs p lo m _ sz' => match decide (sz' = sz) with | true => ∃ cs es, st.heap[p]? = some cs ∧ Seen cs lo (min n m) sz es ∧ K es | false => False
  | .sl _ sz' es => match decide (sz' = sz) with | true => K (es.take n) | false => False
  | _ => False
def vcCopy (i : TI) (d x : AV) (st : St) (K : AV → St → Prop) : Prop :=
  match d with
  | .hs p lo n _ sz => match decide (sz = i.size) with
    | true => cpSrc st x i.size n fun ys => ∃ cs, st.heap[p]? = some cs ∧ lo + ys.length * i.size ≤ cs.length ∧ K (.i ys.length) ⟨st.heap.set p (setAll cs lo ys.flatten), st.tk⟩
    | false => False
  | _ => False

def bndA (x : Option AV) (d : Nat) (K : Nat → Prop) : Prop :=
  match x with
  | none => K d
  | some (.lit (.int _ n)) => ∃ k : Nat, n = (k : Int) ∧ K k
  | _ => False
def vcSlice (T : Tab) (t : TypeId) (x : AV) (lo hi : Option AV) (K : AV → Prop) : Prop :=
  match (T t).map TI.desc with
  | some .string => match x with
    | .lit (.string s) => bndA hi s.size fun h => bndA lo 0 fun l => l ≤ h ∧ h ≤ s.size ∧ K (.s (s.extract l h))
    | _ => False
  | some (.slice e) => match (T e).map TI.size with
    | none => False
    | some sz' => match x with
      | .sl tg sz es => match decide (sz' = sz) with
        | true => match hi, tg with
          | none, .own i v => bndA lo 0 fun l => l ≤ es.length ∧ K (.sl (.own i v) sz (es.drop l))
          | _, _ => bndA hi es.length fun h => bndA lo 0 fun l => l ≤ h ∧ h ≤ es.length ∧ K (.sl .no sz ((es.drop l).take (h - l)))
        | false => False
      | .lit (.slice none 0 0) => bndA hi 0 fun h => bndA lo 0 fun l => l = 0 ∧ h = 0 ∧ K (.lit (.slice none 0 0))
      | .hs p lw n cap sz => match decide (sz' = sz) with
        | true => bndA hi n fun h => bndA lo 0 fun l => l ≤ h ∧ h ≤ cap ∧ ∀ lo', lo' = (if cap = l then lw else lw + l * sz) → K (.hs p lo' (h - l) (cap - l) sz)
        | false => False
      | _ => False
  | some (.array n e) => match (T e).map TI.size, decide (n ≤ maxLen) with
    | some sz, true => match x with
      | .ptr p lw => bndA hi n fun h => bndA lo 0 fun l => l ≤ h ∧ h ≤ n ∧ ∀ lo', lo' = (if n = l then lw else lw + l * sz) → K (.hs p lo' (h - l) (n - l) sz)
      | _ => False
    | _, _ => False
  | _ => False

/-- the table says what the program says -/
def Tab.Ok (P : Program) (T : Tab) : Prop := ∀ t i, T t = some i → P.underlying t = some i.desc ∧ ∃ inf z, P.info? t = some inf ∧ inf.zero = some z ∧ z.cells = i.zero.toArray ∧ inf.size = i.size ∧ inf.bytes = i.bytes ∧ i.zero.length = i.size

section
variable (P : Program) (T : Tab)

/-- a call, over abstract values -/
def ACalls (f : FuncId) (args : List AV) (st : St) (R : AV → St → Prop) : Prop :=
  (∀ (zs : Array Value) (w : World), (callFunc f zs).run P w = .ok (.enter f zs) w) ∧ ∀ (base : Nat) (J : Nat → Nat → Prop) (w0 : World) (μ : Nat → Nat) (σ : Nat → Tkt) (w : World) (vs : Array Value),
    Ok base J w0 st μ σ w → args.length = vs.size → (∀ (j : Nat) a v, args[j]? = some a → vs[j]? = some v → At base J st μ σ w a v) →
    Calls P f vs w fun e w' => ∃ v r st' μ' σ', e = .returned v ∧ R r st' ∧ Ok base J w0 st' μ' σ' w' ∧ Ext base J st μ σ w st' μ' σ' w' ∧ At base J st' μ' σ' w' r v

def AV.shift (k : Nat) : AV → AV
  | .sl (.own t e) sz es => .sl (.own (k + t) e) sz es
  | a => a
def AV.shiftR (k : Nat) : AV → AV
  | .tup vs => .tup (vs.map (AV.shift k))
  | a => a.shift k
def AV.datA : AV → Bool
  | .sl (.own _ _) _ _ => true
  | a => a.dat
/-- a result that needs nothing but its tickets -/
def AV.res : AV → Bool
  | .tup vs => vs.all AV.datA
  | a => a.datA

/-- a call of a function that sees nothing but data: its result, and the tickets that it hands on -/
def APure (f : FuncId) (args : List AV) (r : AV) (ns : List Nat) : Prop :=
  r.res = true ∧ (∀ (zs : Array Value) (w : World), (callFunc f zs).run P w = .ok (.enter f zs) w) ∧ ∀ (J : Nat → Nat → Prop) (w : World) (vs : Array Value), (∀ w', Below w.heap.size w w' → LaidW w') →
    args.length = vs.size → (∀ (j : Nat) a v, args[j]? = some a → vs[j]? = some v → At w.heap.size J ⟨[], []⟩ (fun _ => 0) (fun _ => ⟨0, 0, 0⟩) w a v) →
    Calls P f vs w fun e w' => ∃ v σ', e = .returned v ∧ Ok w.heap.size J w ⟨[], ns⟩ (fun _ => 0) σ' w' ∧ At w.heap.size J ⟨[], ns⟩ (fun _ => 0) σ' w' r v

/-- an argument, said less of: without its ticket; a struct's cells without theirs; or nil as an empty slice -/
def cellW (a a' : AV) : Prop := (a' = a.strip ∧ a'.flat = true) ∨ (a = .nilS ∧ ∃ sz, a' = .sl .no sz [])
def CellsW : List AV → List AV → Prop
  | [], [] => True
  | a :: r, a' :: r' => cellW a a' ∧ CellsW r r'
  | _, _ => False
def argW (a a' : AV) : Prop := ((a' = a.strip ∧ a'.dat = true) ∨ ∃ cs cs', a = .agg cs ∧ a' = .agg cs' ∧ CellsW cs cs') ∨ (a = .nilS ∧ ∃ sz, a' = .sl .no sz [])
def AV.datG : AV → Bool
  | .agg _ => true
  | a => a.datA
def ArgsW : List AV → List AV → Prop
  | [], [] => True
  | a :: r, a' :: r' => argW a a' ∧ ArgsW r r'
  | _, _ => False
/-- slices.overlaps, which has no body -/
def OvF (P : Program) (f : FuncId) : Prop := ∃ (tS tR e : TypeId) (size : Nat), P.underlying tS = some (.slice e) ∧ (∀ w, (Go.sizeOf e).run P w = .ok size w) ∧
  ∀ (zs : Array Value) (w w' : World) (v : Value), (Extern.SlicesOverlaps.overlaps #[tS, tS] #[tR] zs).run P w = .ok v w' → (callFunc f zs).run P w = .ok (.value v) w'
inductive VCall (f : FuncId) (args : List AV) (st : St) (K : AV → St → Prop) : Prop
  | p {r : AV} (hd : args.all AV.datA = true) (h : APure P f (args.map AV.strip) r []) (hk : K r st) : VCall f args st K
  | w {args' : List AV} {r : AV} (hd : args.all AV.datG = true) (hw : ArgsW args args') (h : APure P f args' r []) (hk : K r st) : VCall f args st K
  | t {args' : List AV} {r : AV} {ns : List Nat} (hd : args.all AV.datG = true) (hw : ArgsW args args') (h : APure P f args' r ns) (hk : K (r.shiftR st.tk.length) ⟨st.heap, st.tk ++ ns⟩) : VCall f args st K
  | s (h : ACalls P f args st K) : VCall f args st K
  | o {tg : Tk} {sz p lo n cap sz' : Nat} {e c : AV} {r cs : List AV} {es : List (List AV)} (h : OvF P f) (ha : args = [.sl tg sz ((e :: r) :: es), .hs p lo (n + 1) cap sz']) (hp : st.heap[p]? = some (c :: cs)) (hk : K (.b false) st) : VCall f args st K

def minA (op : Int → Int → Int) (x : AV) : List AV → (AV → Prop) → Prop
  | [], K => K x
  | y :: r, K => match x, y with
    | .lit (.int k a), .lit (.int _ b) => minA op (.int k (op a b)) r K
    | _, _ => False

/-- pointers among these are to older variables than p -/
def olderA (p : Nat) : List AV → Prop → Prop
  | [], K => K
  | .ptr q _ :: r, K => q < p ∧ olderA p r K
  | .hs q _ _ _ _ :: r, K => q < p ∧ olderA p r K
  | _ :: r, K => olderA p r K
theorem olderA_iff {p : Nat} : ∀ {cs : List AV} {K : Prop}, olderA p cs K ↔ (∀ c ∈ cs, c.older p = true) ∧ K
  | [], K => by simp [olderA]
  | c :: r, K => by
    have ih := @olderA_iff p r K
    cases c <;> simp [olderA, AV.older, ih, and_assoc]

def vcOp (o : Op) (ρ : Operand → AV) (st : St) (K : AV → St → Prop) : Prop :=
  match o with
  | .move x => (ρ x).fc fun v => K v st
  | .assign x => (ρ x).fc fun v => K v st
  | .pick c a b => match ρ c with | .lit (.bool t) => cnd t ((ρ a).fc fun v => K v st) ((ρ b).fc fun v => K v st) | _ => False
  | .binOp op t x y _ => match isNilI y with
    | true => vcNilI P op t (ρ x) (ρ y) fun v => K v st
    | false => vcBin P T op t (ρ x) (ρ y) fun v => K v st
  | .unOp op _ x => vcUn op (ρ x) fun v => K v st
  | .extract x i => vcExt (ρ x) i fun v => K v st
  | .load t a => match T t with
    | none => False
    | some i => match ρ a with
      | .ptr p off => ∃ cs, st.heap[p]? = some cs ∧ ldA i cs off fun v => K v st
      | .elt es => ldA i es 0 fun v => K v st
      | _ => False
  | .store t a x => match T t with
    | none => False
    | some i => match ρ a with
      | .ptr p off => match (ρ x).sized && decide ((ρ x).cells.length = i.size) && (ρ x).cells.all AV.cell with
        | true => ∃ cs, st.heap[p]? = some cs ∧ match decide (off + i.size ≤ cs.length) with | true => listK (setAll cs off (ρ x).cells) fun cs' => K .un ⟨st.heap.set p cs', st.tk⟩ | false => False
        | false => False
      | _ => False
  | .alloc t => match T t with
    | none => False
    | some i => match i.zero.all Value.oneCell' with
      | true => listK (i.zero.map AV.lit) fun cs => K (.ptr st.heap.length 0) ⟨st.heap ++ [cs], st.tk⟩
      | false => False
  | .box _ x => match (ρ x).sized && (ρ x).cells.all AV.cell with
    | true => olderA st.heap.length (ρ x).cells (listK (ρ x).cells fun cs => K (.ptr st.heap.length 0) ⟨st.heap ++ [cs], st.tk⟩)
    | false => False
  | .build t parts => match T t with
    | none => False
    | some i => match i.desc with
      | .struct fs => match fieldsIn T fs with
        | true => match fillA T fs (parts.toList.map fun p => (p.1, ρ p.2)) (i.zero.map AV.lit) with
          | some cs => listK cs fun cs => K (.agg cs) st
          | none => False
        | false => False
      | .array _ e => match (T e).map TI.size with
        | some sz => match fillR sz (parts.toList.map fun p => (p.1, ρ p.2)) (i.zero.map AV.lit) with
          | some cs => listK cs fun cs => K (.agg cs) st
          | none => False
        | none => False
      | _ => False
  | .buildSlice t len parts => match (T t).map TI.desc with
    | some (.slice e) => match T e with
      | none => False
      | some i => match decide (len * i.size ≤ 16777216) && decide (0 < i.size) && decide (i.zero.length = i.size) && (i.zero.map AV.lit).all AV.flat with
        | true => match fillE i.size (parts.toList.map fun p => (p.1, ρ p.2)) (List.replicate len (i.zero.map AV.lit)) with
          | some es => listLK es fun es => K (.sl .tight i.size es) st
          | none => False
        | false => False
    | _ => False
  | .makeSlice t l c => match (T t).map TI.desc with
    | some (.slice e) => match T e with
      | some i => match i.zero.all Value.oneCell' with
        | true => match ρ l with
          | .lit (.int _ n) => match ρ c with
            | .lit (.int _ m) => ∃ a b : Nat, n = (a : Int) ∧ m = (b : Int) ∧ a ≤ b ∧ b ≤ maxLen ∧ b * i.bytes ≤ 140737488355328 ∧ K (.hs st.heap.length 0 a b i.size) ⟨st.heap ++ [zerosL i.zero b], st.tk⟩
            | _ => False
          | _ => False
        | false => False
      | none => False
    | _ => False
  | .nilCheck x => match ρ x with
    | .ptr p off => K (.ptr p off) st
    | .elt es => K (.elt es) st
    | .lit (.func (.func f) us vs) => K (.lit (.func (.func f) us vs)) st
    | .fn (.func f) us vs => K (.fn (.func f) us vs) st
    | _ => False
  | .fieldAddr s x f => match (T s).map TI.desc with
    | some (.struct fs) => match fs[f]? with
      | some fd => match (T fd.type).map TI.size with
        | some (_ + 1) => match ρ x with
          | .ptr p off => K (.ptr p (off + fd.offset)) st
          | .elt es => K (.elt (es.drop fd.offset)) st
          | _ => False
        | _ => False
      | none => False
    | _ => False
  | .field s x f => match (T s).map TI.desc with
    | some (.struct fs) => match fs[f]? with
      | some fd => match T fd.type with
        | some i => match ρ x with
          | .agg cs => ldA i cs fd.offset fun v => K v st
          | _ => False
        | none => False
      | none => False
    | _ => False
  | .indexAddr t x ix => match (T t).map TI.desc with
    | some (.slice e) => match ρ x with
      | .sl _ sz es => match ρ ix with
        | .lit (.int _ i) => match decide ((T e).map TI.size = some sz) with
          | true => ∃ (j : Nat) (e : List AV), i = (j : Int) ∧ es[j]? = some e ∧ K (.elt e) st
          | false => False
        | _ => False
      | .hs p lo n _ sz => match ρ ix with
        | .lit (.int _ i) => match decide ((T e).map TI.size = some sz) with
          | true => ∃ (j : Nat), i = (j : Int) ∧ j < n ∧ K (.ptr p (lo + j * sz)) st
          | false => False
        | _ => False
      | _ => False
    | some (.array n e) => match ρ x with
      | .ptr p lo => match ρ ix with
        | .lit (.int _ i) => match (T e).map TI.size with
          | some sz => ∃ (j : Nat), i = (j : Int) ∧ j < n ∧ K (.ptr p (lo + j * sz)) st
          | none => False
        | _ => False
      | _ => False
    | _ => False
  | .index t x ix => match (T t).map TI.desc with
    | some .string => match ρ x with
      | .lit (.string s) => match ρ ix with
        | .lit (.int _ i) => ∃ (j : Nat) (h : j < s.size), i = (j : Int) ∧ K (.u8 s[j]) st
        | _ => False
      | _ => False
    | some (.array n e) => match T e with
      | some i => match ρ x with
        | .agg cs => match ρ ix with
          | .lit (.int _ z) => ∃ j : Nat, z = (j : Int) ∧ j < n ∧ ldA i cs (j * i.size) fun v => K v st
          | _ => False
        | _ => False
      | none => False
    | _ => False
  | .slice t x lo hi none => vcSlice T t (ρ x) (lo.map ρ) (hi.map ρ) fun v => K v st
  | .makeFunc f first captured => K (.fn f (first.toList.map ρ) (captured.toList.map ρ)) st
  | .typeAssert x _ t ok => match ok with
    | true => False
    | false => match (T t).map TI.desc with
      | some (.struct _) => match ρ x with
        | .lit (.iface t' v) => match decide (t' = t) with
          | true => K (AV.ofV v) st
          | false => False
        | _ => False
      | _ => False
  | .convert src dst x => match (T src).map TI.desc with
    | none => False
    | some ds => match (T dst).map TI.desc with
      | some (.int k) => match ρ x with
        | .lit (.int _ n) => ∀ c, c = k.wrap n → K (.int k c) st
        | _ => False
      | some .string => match ds with
        | .string => match ρ x with
          | .lit (.string s) => K (.s s) st
          | _ => False
        | .slice e => match (T e).map TI.desc with
          | some (.int .u8) => match ρ x with
            | .sl _ sz es => match decide (sz = 1) with
              | true => ∃ b : ByteArray, es = (b.data.toList.map fun c => [AV.u8 c]) ∧ K (.s b) st
              | false => False
            | .lit (.slice none _ _) => K (.s .empty) st
            | .hs p lo n _ sz => match decide (sz = 1) with
              | true => ∃ (cs : List AV) (b : ByteArray), st.heap[p]? = some cs ∧ b.size = n ∧ (∀ j (hj : j < b.size), cs[lo + j]? = some (.u8 b[j])) ∧ K (.s b) st
              | false => False
            | _ => False
          | _ => False
        | _ => False
      | some (.slice e) => match ds with
        | .string => match (T e).map TI.desc with
          | some (.int .u8) => match ρ x with
            | .lit (.string s) => s.size ≤ maxLen ∧ K (.sl .no 1 (s.data.toList.map fun c => [AV.u8 c])) st
            | _ => False
          | _ => False
        | _ => False
      | _ => False
  | .call c => match c.callee with
    | .builtin .len => match c.args.toList with | [x] => (match (c.argTypes[0]?).bind T |>.map TI.desc with | some .string => vcLenS (ρ x) fun v => K v st | some (.slice _) => vcLenL (ρ x) fun v => K v st | _ => False) | _ => False
    | .builtin .min => match c.args.toList with | x :: r => minA (fun a b => if b < a then b else a) (ρ x) (r.map ρ) fun v => K v st | [] => False
    | .builtin .max => match c.args.toList with | x :: r => minA (fun a b => if b > a then b else a) (ρ x) (r.map ρ) fun v => K v st | [] => False
    | .builtin .clear => match c.args.toList with
      | [x] => match (c.argTypes[0]?).bind T |>.map TI.desc with
        | some (.slice e) => match T e with
          | some i => match ρ x with
            | .hs p lo n _ sz => match decide (sz = i.size) && i.zero.all Value.oneCell' with
              | true => ∃ cs, st.heap[p]? = some cs ∧ lo + n * sz ≤ cs.length ∧ K (.lit (.tuple #[])) ⟨st.heap.set p (setAll cs lo (zerosL i.zero n)), st.tk⟩
              | false => False
            | _ => False
          | none => False
        | _ => False
      | _ => False
    | .builtin .cap => match c.args.toList with
      | [x] => match (c.argTypes[0]?).bind T |>.map TI.desc with
        | some (.slice _) => match ρ x with
          | .hs _ _ _ cap _ => K (.i cap) st
          | _ => False
        | _ => False
      | _ => False
    | .builtin .copy => match c.args.toList with
      | [d, x] => match (c.argTypes[0]?).bind T |>.map TI.desc with
        | some (.slice e) => match T e with
          | some i => vcCopy i (ρ d) (ρ x) st K
          | none => False
        | _ => False
      | _ => False
    | .builtin .append => match c.args.toList with
      | [s, x] => match (c.argTypes[0]?).bind T |>.map TI.desc with
        | some (.slice e) => match T e with
          | some i => match (c.argTypes[1]?).bind T |>.map TI.desc with
            | some (.slice _) => vcApp i (ρ s) (ρ x) st K
            | some .string => vcApp i (ρ s) (ρ x) st K
            | _ => False
          | none => False
        | _ => False
      | _ => False
    | .value f => match ρ f with
      | .lit (.func (.func k) us vs) => VCall P k (us.toList.map AV.ofV ++ (c.args.toList.map ρ) ++ vs.toList.map AV.ofV) st K
      | .fn (.func k) us vs => VCall P k (us ++ (c.args.toList.map ρ) ++ vs) st K
      | _ => False
    | _ => False
  | _ => False

def Fr.ev (fr : Fr) : Operand → AV
  | .tmp t => fr.getD t .un
  | .const v => AV.ofV v
  | .func f => .lit (.func (.func f) #[] #[])
  | .global g => .lit (.pointer (some ⟨g, 0, none⟩))
def Fr.put (fr : Fr) (d : Option Tmp) (v : AV) : Fr :=
  match d with
  | some d => fr.set d v
  | none => fr
def Fr.putK (fr : Fr) (d : Option Tmp) (v : AV) (K : Fr → Prop) : Prop :=
  match d with
  | some d => setK fr d v K
  | none => K fr
theorem Fr.putK_iff {fr : Fr} {d : Option Tmp} {v : AV} {K : Fr → Prop} : fr.putK d v K ↔ K (fr.put d v) := by
  cases d with
  | none => exact Iff.rfl
  | some d => exact setK_iff

/-- the guard's answer: goes on with an operation, or passes it over -/
def guardA (ops : Array Oper) (g : Option (Nat × Bool)) (fr : Fr) (A B : Fr → Prop) : Prop :=
  match g with
  | none => A fr
  | some (j, want) => match (ops[j]?).bind (·.dst) with
    | none => False
    | some d => match fr[d]? with
      | some (.lit (.bool b)) => match want with | true => cnd b (setK fr d (.b true) A) (setK fr d (.b false) B) | false => cnd b (setK fr d (.b true) B) (setK fr d (.b false) A)
      | some (.lit (.tuple _)) => B fr
      | _ => False
def vcOper (ops : Array Oper) (o : Oper) (fr : Fr) (st : St) (K : Fr → St → Prop) : Prop :=
  guardA ops o.guard fr (fun fr => vcOp P T o.op fr.ev st fun v st' => fr.putK o.dst v fun fr' => K fr' st') (fun fr => fr.putK o.dst .un fun fr' => K fr' st)
def vcOps (ops : Array Oper) : List Oper → Fr → St → (Fr → St → Prop) → Prop
  | [], fr, st, K => K fr st
  | o :: r, fr, st, K => vcOper P T ops o fr st fun fr' st' => vcOps ops r fr' st' K

/-- whatever order is picked -/
def vcAny (ops : Array Oper) (K : Fr → St → Prop) : Nat → Array Bool → Fr → St → Prop
  | 0, listed, fr, st => match Region.ready .any ops listed with
    | [] => K fr st
    | _ :: _ => False
  | n + 1, listed, fr, st =>
    match Region.ready .any ops listed with
    | [] => K fr st
    | i :: is => ∀ j ∈ i :: is, ∃ o, ops[j]? = some o ∧ vcOper P T ops o fr st fun fr' st' => vcAny ops K n (listed.setIfInBounds j true) fr' st'

def seqQ (K : Fr → St → Prop) (Q : Exit → Fr → St → Prop) : Exit → Fr → St → Prop
  | .normal, fr, st => K fr st
  | e, fr, st => Q e fr st
def blockQ (id : Nat) (Q : Exit → Fr → St → Prop) : Exit → Fr → St → Prop
  | .exit id', fr, st => match decide (id' = id) with | true => Q .normal fr st | false => Q (.exit id') fr st
  | e, fr, st => Q e fr st

/-- b says less than a -/
def AV.le (a b : AV) : Prop := b = a ∨ b = .top ∨ b = a.strip
def dsts (ops : Array Oper) : List Nat := ops.toList.filterMap (·.dst)
def writes : Code → List Nat
  | .region _ ops _ => dsts ops
  | .seq a b => writes a ++ writes b
  | .cond _ a b => writes a ++ writes b
  | .block _ b => writes b
  | .loop b => writes b
  | _ => []
/-- fr' says less than fr, at most in the slots W -/
def Fr.le (W : List Nat) (fr fr' : Fr) : Prop := fr.length = fr'.length ∧ ∀ (i : Nat) a b, fr[i]? = some a → fr'[i]? = some b → b = a ∨ (i ∈ W ∧ a.le b)

/-- the slots outside W are as they were -/
def Keep (W : List Nat) (fr fr' : Fr) : Prop := fr.length = fr'.length ∧ ∀ i, i ∉ W → fr'[i]? = fr[i]?

/-- a call that sees nothing but data, and hands on no ticket -/
inductive callP (f : FuncId) (args : List AV) (st : St) (K : AV → St → Prop) : Prop
  | p {r : AV} (hd : args.all AV.datA = true) (h : APure P f (args.map AV.strip) r []) (hk : K r st) : callP f args st K
  | w {args' : List AV} {r : AV} (hd : args.all AV.datG = true) (hw : ArgsW args args') (h : APure P f args' r []) (hk : K r st) : callP f args st K
/-- an operation of a drawn region: no append to a row that is turned in place -/
def vcOpE (o : Op) (ρ : Operand → AV) (st : St) (K : AV → St → Prop) : Prop :=
  match o with
  | .call c => match c.callee with
    | .builtin .append => match c.args.toList with
      | s :: _ => match ρ s with
        | .hs _ _ _ _ _ => False
        | _ => vcOp P T (.call c) ρ st K
      | _ => False
    | .builtin _ => vcOp P T (.call c) ρ st K
    | _ => False
  | o => vcOp P T o ρ st K
/-- an operation; of calls those alone -/
def vcOpX (o : Op) (ρ : Operand → AV) (st : St) (K : AV → St → Prop) : Prop :=
  match o with
  | .call c => match c.callee with
    | .value f => match ρ f with
      | .lit (.func (.func k) us vs) => callP P k (us.toList.map AV.ofV ++ (c.args.toList.map ρ) ++ vs.toList.map AV.ofV) st K
      | .fn (.func k) us vs => callP P k (us ++ (c.args.toList.map ρ) ++ vs) st K
      | _ => False
    | .builtin _ => vcOpE P T (.call c) ρ st K
    | .invoke _ _ => False
  | o => vcOp P T o ρ st K
def vcOperX (ops : Array Oper) (o : Oper) (fr : Fr) (st : St) (K : Fr → St → Prop) : Prop :=
  guardA ops o.guard fr (fun fr => vcOpX P T o.op fr.ev st fun v st' => fr.putK o.dst v fun fr' => K fr' st') (fun fr => fr.putK o.dst .un fun fr' => K fr' st)
def vcOpsX (ops : Array Oper) : List Oper → Fr → St → (Fr → St → Prop) → Prop
  | [], fr, st, K => K fr st
  | o :: r, fr, st, K => vcOperX P T ops o fr st fun fr' st' => vcOpsX ops r fr' st' K
/-- 0: it neither reads nor turns a variable; 1: it reads; 2: it may turn one -/
def cls (x : Bool) : Op → Nat
  | .load _ _ => 1
  | .convert _ _ _ => 1
  | .store _ _ _ => 2
  | .alloc _ => 2
  | .box _ _ => 2
  | .makeSlice _ _ _ => 2
  | .call c => match c.callee with
    | .value _ => match x with | true => 0 | false => 2
    | .builtin b => match b with | .append => 2 | .clear => 2 | .copy => 2 | _ => 0
    | .invoke _ _ => 2
  | _ => 0
def isApp : Op → Bool
  | .call c => match c.callee with | .builtin .append => true | _ => false
  | _ => false
/-- may x be taken ahead of y, whatever order was picked? -/
def comm (x : Bool) (a b : Op) : Bool :=
  match cls x a with
  | 0 => true
  | 1 => decide (cls x b ≤ 1) || isApp b
  | _ => false
def freeA (x : Bool) (ops : Array Oper) (listed : Array Bool) (i : Nat) : Bool :=
  match ops[i]? with
  | none => false
  | some oi => (List.range ops.size).all fun j => j == i || listed.getD j true || match ops[j]? with
      | some oj => oj.after.any (fun e => Region.binds .any e && e.on == i) || (oi.apart ops oj && comm x oi.op oj.op)
      | none => true
def lexA (x : Bool) (ops : Array Oper) : Nat → Nat → Array Bool → Bool
  | 0, _, listed => (Region.ready .any ops listed).isEmpty
  | n + 1, k, listed => (Region.ready .any ops listed).contains k && freeA x ops listed k && lexA x ops n (k + 1) (listed.setIfInBounds k true)
def drawOk (x : Bool) (ops : Array Oper) : Bool := lexA x ops ops.size 0 (Array.replicate ops.size false)

/-- a call that sees nothing but data, or turns nothing that was -/
inductive callN (f : FuncId) (args : List AV) (st : St) (K : AV → St → Prop) : Prop
  | p {r : AV} (hd : args.all AV.datA = true) (h : APure P f (args.map AV.strip) r []) (hk : K r st) : callN f args st K
  | w {args' : List AV} {r : AV} (hd : args.all AV.datG = true) (hw : ArgsW args args') (h : APure P f args' r []) (hk : K r st) : callN f args st K
  | s (h : ACalls P f args st fun r st' => Pre st st' ∧ K r st') : callN f args st K
/-- an operation; of calls those alone -/
def vcOpN (o : Op) (ρ : Operand → AV) (st : St) (K : AV → St → Prop) : Prop :=
  match o with
  | .call c => match c.callee with
    | .value f => match ρ f with
      | .lit (.func (.func k) us vs) => callN P k (us.toList.map AV.ofV ++ (c.args.toList.map ρ) ++ vs.toList.map AV.ofV) st K
      | .fn (.func k) us vs => callN P k (us ++ (c.args.toList.map ρ) ++ vs) st K
      | _ => False
    | .builtin _ => vcOpE P T (.call c) ρ st K
    | .invoke _ _ => False
  | o => vcOp P T o ρ st K
def vcOperN (ops : Array Oper) (o : Oper) (fr : Fr) (st : St) (K : Fr → St → Prop) : Prop :=
  guardA ops o.guard fr (fun fr => vcOpN P T o.op fr.ev st fun v st' => fr.putK o.dst v fun fr' => K fr' st') (fun fr => fr.putK o.dst .un fun fr' => K fr' st)
/-- does it turn nothing that was? -/
def isNew : Op → Bool
  | .alloc _ => true
  | .box _ _ => true
  | .call c => match c.callee with | .builtin .append => true | .value _ => true | _ => false
  | _ => false
def commN (wild : Bool) (a b : Op) : Bool :=
  match cls false a with
  | 0 => true
  | 1 => decide (cls false b ≤ 1) || (!wild && isNew b)
  | _ => false
def isIn : Nat → List Nat → Bool
  | _, [] => false
  | n, m :: r => match Nat.beq n m with | true => true | false => isIn n r
/-- those that come behind i -/
def dset (ops : Array Oper) (i : Nat) : List Bool :=
  (List.range ops.size).foldl (fun D j => D ++ [match ops[j]? with | some oj => oj.after.any (fun e => Region.binds .any e && (e.on == i || D.getD e.on false)) | none => false]) []
def freeN (W : List Nat) (ops : Array Oper) (listed : Array Bool) (i : Nat) : Bool :=
  match ops[i]? with
  | none => false
  | some oi => (fun D => !(D.getD i false) && (List.range ops.size).all fun j => (!(D.getD j false) || !(listed.getD j true)) && (j == i || listed.getD j true || match ops[j]? with
      | some oj => oj.after.any (fun e => Region.binds .any e && (e.on == i || D.getD e.on false)) || (!(D.getD j false) && oi.apart ops oj && commN (isIn j W) oi.op oj.op)
      | none => true)) (dset ops i)
/-- which operation comes next: one that may be taken ahead of all others; or each of two; or one that is alone, whatever it does -/
inductive Plan where
  | done
  | one (k : Nat) (p : Plan)
  | two (j k : Nat) (p q : Plan)
  | only (k : Nat) (p : Plan)
  | both (j k : Nat) (p q : Plan)
def Plan.wild : Plan → List Nat
  | .done => []
  | .one _ p => p.wild
  | .two _ _ p q => p.wild ++ q.wild
  | .only k p => k :: p.wild
  | .both j k p q => j :: k :: (p.wild ++ q.wild)
def okPlan (W : List Nat) (ops : Array Oper) : Nat → Plan → Array Bool → Bool
  | 0, .done, listed => (Region.ready .any ops listed).isEmpty
  | n + 1, .one k p, listed => (Region.ready .any ops listed).contains k && (freeN W ops listed k || Region.ready .any ops listed == [k]) && okPlan W ops n p (listed.setIfInBounds k true)
  | n + 1, .two j k p q, listed => Region.ready .any ops listed == [j, k] && okPlan W ops n p (listed.setIfInBounds j true) && okPlan W ops n q (listed.setIfInBounds k true)
  | n + 1, .both j k p q, listed => isIn j W && isIn k W && Region.ready .any ops listed == [j, k] && okPlan W ops n p (listed.setIfInBounds j true) && okPlan W ops n q (listed.setIfInBounds k true)
  | n + 1, .only k p, listed => isIn k W && Region.ready .any ops listed == [k] && okPlan W ops n p (listed.setIfInBounds k true)
  | _, _, _ => false
def planOk (ops : Array Oper) (p : Plan) : Bool := okPlan p.wild ops ops.size p (Array.replicate ops.size false)
def vcPlan (ops : Array Oper) (K : Fr → St → Prop) : Plan → Fr → St → Prop
  | .done, fr, st => K fr st
  | .one k p, fr, st => match ops[k]? with
    | some o => vcOperN P T ops o fr st fun fr' st' => vcPlan ops K p fr' st'
    | none => False
  | .only k p, fr, st => match ops[k]? with
    | some o => vcOper P T ops o fr st fun fr' st' => vcPlan ops K p fr' st'
    | none => False
  | .two j k p q, fr, st => (match ops[j]? with
    | some o => vcOperN P T ops o fr st fun fr' st' => vcPlan ops K p fr' st'
    | none => False) ∧ (match ops[k]? with
    | some o => vcOperN P T ops o fr st fun fr' st' => vcPlan ops K q fr' st'
    | none => False)
  | .both j k p q, fr, st => (match ops[j]? with
    | some o => vcOper P T ops o fr st fun fr' st' => vcPlan ops K p fr' st'
    | none => False) ∧ (match ops[k]? with
    | some o => vcOper P T ops o fr st fun fr' st' => vcPlan ops K q fr' st'
    | none => False)

/-- a region whose order is drawn: one walk of the text's order serves, or each order is walked; or orders by a plan, and behind them less is kept -/
inductive VDraw (ops : Array Oper) (K : Fr → St → Prop) (fr : Fr) (st : St) : Prop
  | e (h : drawOk true ops = true) (hv : vcOpsX P T ops ops.toList fr st K) : VDraw ops K fr st
  | x (h : drawOk true ops = true) (hv : vcOpsX P T ops ops.toList fr st K) : VDraw ops K fr st
  | any (hv : vcAny P T ops K ops.size (Array.replicate ops.size false) fr st) : VDraw ops K fr st
  | n (p : Plan) (h : planOk ops p = true) (hv : vcPlan P T ops K p fr st) : VDraw ops K fr st
  | cut (p : Plan) (K' : Fr → St → Prop) (h : planOk ops p = true) (hv : vcPlan P T ops K' p fr st) (hk : ∀ fr' st', K' fr' st' → Keep (dsts ops) fr fr' → ∃ fr0, Fr.le (dsts ops) fr' fr0 ∧ K fr0 st') : VDraw ops K fr st

/-- a loop: what holds at its head, with a number that every round lowers -/
inductive VLoop (body : (Exit → Fr → St → Prop) → Fr → St → Prop) (W : List Nat) (Q : Exit → Fr → St → Prop) (fr : Fr) (st : St) : Prop
  | mk (I : Nat → Fr → St → Prop) (h0 : ∃ g fr0, Fr.le W fr fr0 ∧ I g fr0 st)
      (hr : ∀ g fr st, I g fr st → body (seqQ (fun fr' st' => ∃ g' fr0, g' < g ∧ Fr.le W fr' fr0 ∧ I g' fr0 st') (fun e fr' st' => ∃ fr0, Fr.le W fr' fr0 ∧ Q e fr0 st')) fr st) : VLoop body W Q fr st
def vc : Code → (Exit → Fr → St → Prop) → Fr → St → Prop
  | .skip, Q, fr, st => Q .normal fr st
  | .label _, Q, fr, st => Q .normal fr st
  | .region _ ops draw, Q, fr, st => match draw with
    | false => vcOps P T ops ops.toList fr st fun fr' st' => Q .normal fr' st'
    | true => VDraw P T ops (fun fr' st' => Q .normal fr' st') fr st
  | .seq a b, Q, fr, st => vc a (seqQ (fun fr' st' => vc b Q fr' st') Q) fr st
  | .cond c x y, Q, fr, st => match fr.ev c with | .lit (.bool t) => cnd t (vc x Q fr st) (vc y Q fr st) | _ => False
  | .block id b, Q, fr, st => vc b (blockQ id Q) fr st
  | .loop b, Q, fr, st => VLoop (fun Q' fr' st' => vc b Q' fr' st') (writes b) Q fr st
  | .exit id, Q, fr, st => Q (.exit id) fr st
  | .ret, Q, fr, st => Q .ret fr st
  | _, _, _, _ => False

/-- what a function hands back -/
def resOne (r : ResultVar) (fr : Fr) (st : St) (K : AV → Prop) : Prop :=
  match r with
  | .tmp t => (fr.getD t .un).fc K
  | .cell a t => match T t with
    | none => False
    | some i => match fr.getD a .un with
      | .ptr p off => ∃ cs, st.heap[p]? = some cs ∧ ldA i cs off K
      | _ => False
def resAll : List ResultVar → Fr → St → (List AV → Prop) → Prop
  | [], _, _, K => K []
  | r :: rs, fr, st, K => resOne T r fr st fun v => resAll rs fr st fun vs => K (v :: vs)
def retQ (fn : Func) (R : AV → St → Prop) : Exit → Fr → St → Prop
  | .normal, fr, st => resAll T fn.results.toList fr st fun vs => match vs with | [v] => R v st | vs => R (.tup vs) st
  | .ret, fr, st => resAll T fn.results.toList fr st fun vs => match vs with | [v] => R v st | vs => R (.tup vs) st
  | _, _, _ => False
def frame (fn : Func) (args : List AV) : Fr := args ++ List.replicate (fn.ntmps - args.length) .un
def unsK : Nat → (Fr → Prop) → Prop
  | 0, K => K []
  | n + 1, K => unsK n fun fr => K (.un :: fr)
theorem unsK_iff : ∀ {n : Nat} {K : Fr → Prop}, unsK n K ↔ K (List.replicate n .un)
  | 0, _ => Iff.rfl
  | n + 1, K => by
    unfold unsK
    exact unsK_iff
def appK : List AV → Fr → (Fr → Prop) → Prop
  | [], fr, K => K fr
  | a :: r, fr, K => appK r fr fun fr' => K (a :: fr')
theorem appK_iff : ∀ {l : List AV} {fr : Fr} {K : Fr → Prop}, appK l fr K ↔ K (l ++ fr)
  | [], _, _ => Iff.rfl
  | a :: r, fr, K => by
    unfold appK
    exact appK_iff
def frameK (fn : Func) (args : List AV) (K : Fr → Prop) : Prop := unsK (fn.ntmps - args.length) fun fr => appK args fr K
theorem frameK_iff {fn : Func} {args : List AV} {K : Fr → Prop} : frameK fn args K ↔ K (frame fn args) := unsK_iff.trans appK_iff
end

section
variable {P : Program} {T : Tab} {K K' : AV → St → Prop} {K1 K1' : AV → Prop}

theorem cnd_mono {b : Bool} {A B A' B' : Prop} (h1 : A → A') (h2 : B → B') (h : cnd b A B) : cnd b A' B' := by
  cases b
  · exact h2 h
  · exact h1 h
theorem binInt_mono (hk : ∀ v, K1 v → K1' v) {op : BinOp} {k : IntKind} {a b : Int} (h : binInt op k a b K1) : binInt op k a b K1' := by
  cases op <;> simp only [binInt] at h ⊢ <;> first | exact fun c hc => hk _ (h c hc) | exact ⟨h.1, fun c hc => hk _ (h.2 c hc)⟩ | exact ⟨h.1, hk _ h.2⟩ | exact hk _ h
theorem binStr_mono (hk : ∀ v, K1 v → K1' v) {op : BinOp} {a b : ByteArray} (h : binStr op a b K1) : binStr op a b K1' := by
  cases op <;> simp only [binStr] at h ⊢ <;> first | exact fun c hc => hk _ (h c hc) | exact ⟨h.1, hk _ h.2⟩ | exact hk _ h
theorem eqlB_mono (hk : ∀ v, K1 v → K1' v) {op : BinOp} {t : Bool} (h : eqlB op t K1) : eqlB op t K1' := by
  cases op <;> simp only [eqlB] at h ⊢ <;> exact hk _ h
theorem vcBin_mono (hk : ∀ v, K1 v → K1' v) {op : BinOp} {t : TypeId} {x y : AV} (h : vcBin P T op t x y K1) : vcBin P T op t x y K1' := by
  revert h
  unfold vcBin
  repeat' split
  all_goals intro h
  all_goals first | exact binInt_mono hk h | exact binStr_mono hk h | exact eqlB_mono hk h | exact ⟨h.1, fun q hq => eqlB_mono hk (h.2 q hq)⟩ | exact h.elim | exact h.2.elim
theorem vcNilI_mono (hk : ∀ v, K1 v → K1' v) {op : BinOp} {t : TypeId} {x y : AV} (h : vcNilI P op t x y K1) : vcNilI P op t x y K1' := by
  obtain ⟨h0, h⟩ := h
  refine ⟨h0, ?_⟩
  revert h
  split <;> intro h
  · exact eqlB_mono hk h
  · exact eqlB_mono hk h
  · exact h.elim
theorem vcUn_mono (hk : ∀ v, K1 v → K1' v) {op : UnOp} {x : AV} (h : vcUn op x K1) : vcUn op x K1' := by
  revert h
  unfold vcUn
  split <;> intro h <;> first | exact hk _ h | exact fun c hc => hk _ (h c hc) | exact h.elim
theorem ldA_mono (hk : ∀ v, K1 v → K1' v) {i : TI} {cs : List AV} {off : Nat} (h : ldA i cs off K1) : ldA i cs off K1' := by
  revert h
  unfold ldA
  split <;> (try split) <;> intro h <;> first | exact listK_iff.2 (hk _ (listK_iff.1 h)) | exact hk _ h | exact h.elim
theorem vcExt_mono (hk : ∀ v, K1 v → K1' v) {x : AV} {i : Nat} (h : vcExt x i K1) : vcExt x i K1' := by
  revert h
  unfold vcExt
  split <;> (try split) <;> intro h <;> first | exact hk _ h | exact h.elim
theorem vcLenS_mono (hk : ∀ v, K1 v → K1' v) {x : AV} (h : vcLenS x K1) : vcLenS x K1' := by
  revert h
  unfold vcLenS
  split <;> intro h <;> first | exact hk _ h | exact h.elim
theorem vcLenL_mono (hk : ∀ v, K1 v → K1' v) {x : AV} (h : vcLenL x K1) : vcLenL x K1' := by
  revert h
  unfold vcLenL
  split <;> intro h <;> first | exact hk _ h | exact h.elim
theorem srcA_mono {L L' : List (List AV) → Prop} (hk : ∀ v, L v → L' v) {st : St} {x : AV} {n : Nat} (h : srcA st x n L) : srcA st x n L' := by
  revert h
  unfold srcA
  split <;> (try split) <;> intro h <;> first | exact hk _ h | exact h.elim | (obtain ⟨cs, es, h1, h2, h3⟩ := h; exact ⟨cs, es, h1, h2, hk _ h3⟩)
theorem vcApp_mono (hk : ∀ v st, K v st → K' v st) {i : TI} {s x : AV} {st : St} (h : vcApp i s x st K) : vcApp i s x st K' := by
  refine srcA_mono (fun ys h => ?_) h
  revert h
  split <;> (try split) <;> intro h <;> first
    | exact ⟨fun e => hk _ _ (h.1 e), fun e => ⟨(h.2 e).1, (h.2 e).2.1, hk _ _ (h.2 e).2.2⟩⟩
    | exact ⟨fun e => hk _ _ (h.1 e), fun e => ⟨(h.2 e).1, (h.2 e).2.1, (h.2 e).2.2.imp (hk _ _) (fun g x hx => hk _ _ (g x hx))⟩⟩
    | exact ⟨fun e => hk _ _ (h.1 e), fun e => ⟨(h.2 e).1, (h.2 e).2.1, (h.2 e).2.2.imp (hk _ _) (fun g => ⟨g.1, fun x hx => hk _ _ (g.2 x hx)⟩)⟩⟩
    | exact ⟨fun e => hk _ _ (h.1 e), fun e => let ⟨b1, b2, cs, es, b3, b4, b5, b6⟩ := h.2 e; ⟨b1, b2, cs, es, b3, b4, fun x => ⟨(b5 x).1, hk _ _ (b5 x).2⟩, fun x y z => hk _ _ (b6 x y z)⟩⟩
    | exact ⟨h.1, h.2.1, h.2.2.1, hk _ _ h.2.2.2⟩
    | exact h.elim
theorem vcCopy_mono (hk : ∀ v st, K v st → K' v st) {i : TI} {d x : AV} {st : St} (h : vcCopy i d x st K) : vcCopy i d x st K' := by
  revert h
  unfold vcCopy cpSrc
  repeat' split
  all_goals intro h
  all_goals first
    | exact h.elim
    | (obtain ⟨cs, es, h1, h2, cs', h3, h4, h5⟩ := h; exact ⟨cs, es, h1, h2, cs', h3, h4, hk _ _ h5⟩)
    | (obtain ⟨cs', h3, h4, h5⟩ := h; exact ⟨cs', h3, h4, hk _ _ h5⟩)
theorem bndA_mono {L L' : Nat → Prop} (hk : ∀ v, L v → L' v) {x : Option AV} {d : Nat} (h : bndA x d L) : bndA x d L' := by
  revert h
  unfold bndA
  split <;> intro h <;> first | exact hk _ h | (obtain ⟨k, h1, h2⟩ := h; exact ⟨k, h1, hk _ h2⟩) | exact h.elim
theorem vcSlice_mono (hk : ∀ v, K1 v → K1' v) {t : TypeId} {x : AV} {lo hi : Option AV} (h : vcSlice T t x lo hi K1) : vcSlice T t x lo hi K1' := by
  revert h
  unfold vcSlice
  repeat' split
  all_goals intro h
  all_goals first
    | exact h.elim
    | (refine bndA_mono (fun _ h => bndA_mono (fun _ h => ?_) h) h; exact ⟨h.1, h.2.1, fun lo' hl => hk _ (h.2.2 lo' hl)⟩)
    | (refine bndA_mono (fun _ h => bndA_mono (fun _ h => ?_) h) h; exact ⟨h.1, h.2.1, hk _ h.2.2⟩)
    | exact bndA_mono (fun _ h => ⟨h.1, hk _ h.2⟩) h
theorem minA_mono (hk : ∀ v, K1 v → K1' v) {op : Int → Int → Int} : ∀ {r : List AV} {x : AV}, minA op x r K1 → minA op x r K1'
  | [], _, h => hk _ h
  | y :: r, x, h => by
    revert h
    unfold minA
    split
    · exact fun h => minA_mono hk h
    · exact fun h => h
theorem vcCall_mono (hk : ∀ v st, K v st → K' v st) {f : FuncId} {args : List AV} {st : St} (h : VCall P f args st K) : VCall P f args st K' := by
  rcases h with ⟨h0, h1, h2⟩ | ⟨h0, h3, h1, h2⟩ | ⟨h0, h3, h1, h2⟩ | ⟨h1, h2⟩ | ⟨h0, h1, h2, h3⟩
  · exact .p h0 h1 (hk _ _ h2)
  · exact .w h0 h3 h1 (hk _ _ h2)
  · exact .t h0 h3 h1 (hk _ _ h2)
  rotate_left
  · exact .o h0 h1 h2 (hk _ _ h3)
  · refine .s ⟨h1, fun base J w0 μ σ w vs a b c => (h2 base J w0 μ σ w vs a b c).mono ?_⟩
    rintro e w' ⟨v, r, st', μ', σ', q1, q2, q3⟩
    exact ⟨v, r, st', μ', σ', q1, hk _ _ q2, q3⟩

theorem vcOp_mono (hk : ∀ v st, K v st → K' v st) {o : Op} {ρ : Operand → AV} {st : St} (h : vcOp P T o ρ st K) : vcOp P T o ρ st K' := by
  cases o <;> simp only [vcOp, AV.fc_iff, listK_iff, listLK_iff] at h ⊢ <;> try exact hk _ _ h
  case pick c a b =>
    revert h
    split <;> intro h
    · exact cnd_mono (hk _ _) (hk _ _) h
    · exact h
  case alloc t =>
    revert h
    repeat' split
    all_goals intro h
    all_goals first | exact hk _ _ h | exact h
  case box t x =>
    revert h
    repeat' split
    all_goals intro h
    all_goals first | (rw [olderA_iff] at h ⊢; exact ⟨h.1, hk _ _ h.2⟩) | exact h
  case build t parts =>
    revert h
    repeat' split
    all_goals intro h
    all_goals first | exact hk _ _ h | exact h
  case buildSlice t len parts =>
    revert h
    repeat' split
    all_goals intro h
    all_goals first | exact hk _ _ h | exact h
  case makeSlice t l c =>
    revert h
    repeat' split
    all_goals intro h
    all_goals first | (obtain ⟨a, b, h1, h2, h3, h4, h5, h6⟩ := h; exact ⟨a, b, h1, h2, h3, h4, h5, hk _ _ h6⟩) | exact h
  case load t a =>
    revert h
    repeat' split
    all_goals intro h
    all_goals first | (obtain ⟨cs, h1, h2⟩ := h; exact ⟨cs, h1, ldA_mono (fun v => hk v st) h2⟩) | exact ldA_mono (fun v => hk v st) h | exact h
  case store t a x =>
    revert h
    repeat' split
    all_goals intro h
    all_goals first | (obtain ⟨cs, h1, h2⟩ := h; refine ⟨cs, h1, ?_⟩; revert h2; split <;> intro h2; exact hk _ _ h2; exact h2) | exact h
  case nilCheck x =>
    revert h
    repeat' split
    all_goals intro h
    all_goals first | exact hk _ _ h | exact h
  case typeAssert x xt t ok =>
    revert h
    repeat' split
    all_goals intro h
    all_goals first | exact hk _ _ h | exact h
  case binOp op t x y ty =>
    revert h
    split <;> intro h
    · exact vcNilI_mono (fun v => hk v st) h
    · exact vcBin_mono (fun v => hk v st) h
  case unOp op t x => exact vcUn_mono (fun v => hk v st) h
  case convert src dst x =>
    revert h
    repeat' split
    all_goals intro h
    all_goals first | exact hk _ _ h | exact fun c hc => hk _ _ (h c hc) | exact ⟨h.1, hk _ _ h.2⟩ | (obtain ⟨b, h1, h2⟩ := h; exact ⟨b, h1, hk _ _ h2⟩) | (obtain ⟨cs, b, h1, h2, h3, h4⟩ := h; exact ⟨cs, b, h1, h2, h3, hk _ _ h4⟩) | exact h
  case slice t x lo hi mx =>
    cases mx with
    | none => exact vcSlice_mono (fun v => hk v st) h
    | some m => exact h
  case fieldAddr s x f =>
    revert h
    repeat' split
    all_goals intro h
    all_goals first | exact hk _ _ h | exact h
  case field s x f =>
    revert h
    repeat' split
    all_goals intro h
    all_goals first | exact ldA_mono (fun v => hk v st) h | exact h
  case indexAddr t x ix =>
    revert h
    repeat' split
    all_goals intro h
    all_goals first | (obtain ⟨j, e, h1, h2, h3⟩ := h; exact ⟨j, e, h1, h2, hk _ _ h3⟩) | (obtain ⟨j, h1, h2, h3⟩ := h; exact ⟨j, h1, h2, hk _ _ h3⟩) | exact h
  case index t x ix =>
    revert h
    repeat' split
    all_goals intro h
    all_goals first | (obtain ⟨j, e, h1, h2⟩ := h; exact ⟨j, e, h1, hk _ _ h2⟩) | (obtain ⟨j, h1, h2, h3⟩ := h; exact ⟨j, h1, h2, ldA_mono (fun v => hk v st) h3⟩) | exact h
  case extract x i => exact vcExt_mono (fun v => hk v st) h
  case call c =>
    revert h
    repeat' split
    all_goals intro h
    all_goals first | exact vcLenS_mono (fun v => hk v st) h | exact vcLenL_mono (fun v => hk v st) h | exact minA_mono (fun v => hk v st) h | exact vcApp_mono hk h | exact vcCall_mono hk h | exact vcCopy_mono hk h | (obtain ⟨cs, h1, h2, h3⟩ := h; exact ⟨cs, h1, h2, hk _ _ h3⟩) | exact hk _ _ h | exact h

/-- the same, the frame as it is -/
def guard0 (ops : Array Oper) (g : Option (Nat × Bool)) (fr : Fr) (A B : Prop) : Prop :=
  match g with
  | none => A
  | some (j, want) => match (ops[j]?).bind (·.dst) with
    | none => False
    | some d => match fr[d]? with
      | some (.lit (.bool b)) => match want with | true => cnd b A B | false => cnd b B A
      | some (.lit (.tuple _)) => B
      | _ => False
theorem set_self {fr : Fr} {d : Nat} {v : AV} (h : fr[d]? = some v) : fr.set d v = fr := by
  apply List.ext_getElem?
  intro i
  by_cases e : d = i
  · subst e
    rw [List.getElem?_set_self (List.getElem?_eq_some_iff.1 h).1, h]
  · rw [List.getElem?_set_ne e]
theorem guardA_iff {ops : Array Oper} {g : Option (Nat × Bool)} {fr : Fr} {A B : Fr → Prop} : guardA ops g fr A B ↔ guard0 ops g fr (A fr) (B fr) := by
  cases g with
  | none => exact Iff.rfl
  | some jw =>
    obtain ⟨j, want⟩ := jw
    cases hd : (ops[j]?).bind (·.dst) with
    | none => simp only [guardA, guard0, hd]
    | some d =>
      cases hf : fr[d]? with
      | none => simp only [guardA, guard0, hd, hf]
      | some a =>
        cases a with
        | lit v =>
          cases v with
          | bool b => cases b <;> cases want <;> simp only [guardA, guard0, hd, hf, cnd, AV.b, setK_iff, set_self hf]
          | _ => simp only [guardA, guard0, hd, hf]
        | _ => simp only [guardA, guard0, hd, hf]
theorem guard0_mono {ops : Array Oper} {g : Option (Nat × Bool)} {fr : Fr} {A B A' B' : Prop} (h1 : A → A') (h2 : B → B') (h : guard0 ops g fr A B) : guard0 ops g fr A' B' := by
  revert h
  unfold guard0
  repeat' split
  all_goals intro h
  all_goals first | exact h1 h | exact h2 h | exact cnd_mono h1 h2 h | exact cnd_mono h2 h1 h | exact h
theorem vcOper_iff {L : Fr → St → Prop} {ops : Array Oper} {o : Oper} {fr : Fr} {st : St} : vcOper P T ops o fr st L ↔ guard0 ops o.guard fr (vcOp P T o.op fr.ev st fun v st' => L (fr.put o.dst v) st') (L (fr.put o.dst .un) st) := by
  unfold vcOper
  rw [guardA_iff]
  simp only [Fr.putK_iff]
theorem vcOper_mono {L L' : Fr → St → Prop} {ops : Array Oper} {o : Oper} {fr : Fr} {st : St} (h1 : ∀ v st', L (fr.put o.dst v) st' → L' (fr.put o.dst v) st') (h : vcOper P T ops o fr st L) : vcOper P T ops o fr st L' :=
  vcOper_iff.2 (guard0_mono (fun h => vcOp_mono (fun v st' => h1 v st') h) (fun h => h1 _ _ h) (vcOper_iff.1 h))

theorem Keep.refl (W : List Nat) (fr : Fr) : Keep W fr fr := ⟨rfl, fun _ _ => rfl⟩
theorem Keep.trans {W : List Nat} {a b c : Fr} (h : Keep W a b) (k : Keep W b c) : Keep W a c := ⟨h.1.trans k.1, fun i hi => (k.2 i hi).trans (h.2 i hi)⟩
theorem Keep.put {W : List Nat} (fr : Fr) (d : Option Tmp) (v : AV) (hd : ∀ x, d = some x → x ∈ W) : Keep W fr (fr.put d v) := by
  cases d with
  | none => exact .refl _ _
  | some d =>
    refine ⟨by simp [Fr.put], fun i hi => ?_⟩
    have hne : d ≠ i := fun e => hi (by subst e; exact hd _ rfl)
    exact List.getElem?_set_ne hne
theorem Keep.mono {W W' : List Nat} {a b : Fr} (h : Keep W a b) (hs : ∀ i, i ∈ W → i ∈ W') : Keep W' a b := ⟨h.1, fun i hi => h.2 i (fun hw => hi (hs i hw))⟩

theorem mem_dsts {ops : Array Oper} {o : Oper} (ho : o ∈ ops.toList) {d : Tmp} (hd : o.dst = some d) : d ∈ dsts ops := List.mem_filterMap.2 ⟨o, ho, hd⟩

theorem vcOps_keeps {L : Fr → St → Prop} {ops : Array Oper} {W : List Nat} : ∀ (l : List Oper) {fr : Fr} {st : St}, (∀ o ∈ l, ∀ d, o.dst = some d → d ∈ W) → vcOps P T ops l fr st L → vcOps P T ops l fr st fun fr' st' => L fr' st' ∧ Keep W fr fr'
  | [], fr, st, _, h => ⟨h, .refl _ _⟩
  | o :: l, fr, st, hw, h => by
    refine vcOper_mono (fun v st' h => ?_) h
    have hk : Keep W fr (fr.put o.dst v) := .put _ _ _ (hw o List.mem_cons_self)
    have := vcOps_keeps l (fun o' ho' => hw o' (List.mem_cons_of_mem _ ho')) h
    exact vcOps_mono l (fun fr' st' h => ⟨h.1, hk.trans h.2⟩) this
where
  vcOps_mono {L L' : Fr → St → Prop} : ∀ (l : List Oper) {fr : Fr} {st : St}, (∀ fr st, L fr st → L' fr st) → vcOps P T ops l fr st L → vcOps P T ops l fr st L'
    | [], _, _, hk, h => hk _ _ h
    | _ :: l, _, _, hk, h => vcOper_mono (fun _ _ h => vcOps_mono l hk h) h
theorem vcAny_mono {L L' : Fr → St → Prop} {ops : Array Oper} : ∀ (n : Nat) (listed : Array Bool) {fr : Fr} {st : St}, (∀ fr st, L fr st → L' fr st) → vcAny P T ops L n listed fr st → vcAny P T ops L' n listed fr st
  | 0, listed, fr, st, hk, h => by
    revert h
    unfold vcAny
    split
    · exact hk _ _
    · exact fun h => h
  | n + 1, listed, fr, st, hk, h => by
    revert h
    unfold vcAny
    split
    · exact hk _ _
    · intro h j hj
      obtain ⟨o, ho, hv⟩ := h j hj
      exact ⟨o, ho, vcOper_mono (fun _ _ h => vcAny_mono n _ hk h) hv⟩
theorem vcAny_keeps {L : Fr → St → Prop} {ops : Array Oper} : ∀ (n : Nat) (listed : Array Bool) {fr : Fr} {st : St}, vcAny P T ops L n listed fr st → vcAny P T ops (fun fr' st' => L fr' st' ∧ Keep (dsts ops) fr fr') n listed fr st
  | 0, listed, fr, st, h => by
    revert h
    unfold vcAny
    split
    · exact fun h => ⟨h, .refl _ _⟩
    · exact fun h => h
  | n + 1, listed, fr, st, h => by
    revert h
    unfold vcAny
    split
    · exact fun h => ⟨h, .refl _ _⟩
    · intro h j hj
      obtain ⟨o, ho, hv⟩ := h j hj
      refine ⟨o, ho, vcOper_mono (fun v st' h => ?_) hv⟩
      have hmem : o ∈ ops.toList := Array.mem_toList_iff.2 (Array.mem_of_getElem? ho)
      have hk : Keep (dsts ops) fr (fr.put o.dst v) := .put _ _ _ (fun d hd => mem_dsts hmem hd)
      exact vcAny_mono n _ (fun fr' st' h => ⟨h.1, hk.trans h.2⟩) (vcAny_keeps n _ h)

theorem callP_mono (hk : ∀ v st, K v st → K' v st) {f : FuncId} {args : List AV} {st : St} (h : callP P f args st K) : callP P f args st K' := by
  rcases h with ⟨h0, h1, h2⟩ | ⟨h0, h3, h1, h2⟩
  · exact .p h0 h1 (hk _ _ h2)
  · exact .w h0 h3 h1 (hk _ _ h2)
/-- no row that is turned in place is appended to -/
def okE (o : Op) (ρ : Operand → AV) : Prop :=
  match o with
  | .call c => match c.callee with
    | .builtin .append => match c.args.toList with
      | s :: _ => match ρ s with
        | .hs _ _ _ _ _ => False
        | _ => True
      | _ => False
    | .builtin _ => True
    | _ => False
  | _ => True
theorem vcOpE_iff {o : Op} {ρ : Operand → AV} {st : St} {K : AV → St → Prop} : vcOpE P T o ρ st K ↔ okE o ρ ∧ vcOp P T o ρ st K := by
  cases o with
  | call c =>
    cases hc : c.callee with
    | builtin b =>
      cases b
      case append =>
        cases hl : c.args.toList with
        | nil => simp [vcOpE, okE, hc, hl]
        | cons s r =>
          cases hs : ρ s <;> simp [vcOpE, okE, hc, hl, hs]
      all_goals simp [vcOpE, okE, hc]
    | _ => simp [vcOpE, okE, hc]
  | _ => simp [vcOpE, okE]
theorem vcOpE_mono (hk : ∀ v st, K v st → K' v st) {o : Op} {ρ : Operand → AV} {st : St} (h : vcOpE P T o ρ st K) : vcOpE P T o ρ st K' :=
  vcOpE_iff.2 ⟨(vcOpE_iff.1 h).1, vcOp_mono hk (vcOpE_iff.1 h).2⟩
theorem vcOpX_mono (hk : ∀ v st, K v st → K' v st) {o : Op} {ρ : Operand → AV} {st : St} (h : vcOpX P T o ρ st K) : vcOpX P T o ρ st K' := by
  revert h
  unfold vcOpX
  repeat' split
  all_goals intro h
  all_goals first | exact callP_mono hk h | exact vcOpE_mono hk h | exact vcOp_mono hk h | exact h
theorem vcOperX_iff {L : Fr → St → Prop} {ops : Array Oper} {o : Oper} {fr : Fr} {st : St} : vcOperX P T ops o fr st L ↔ guard0 ops o.guard fr (vcOpX P T o.op fr.ev st fun v st' => L (fr.put o.dst v) st') (L (fr.put o.dst .un) st) := by
  unfold vcOperX
  rw [guardA_iff]
  simp only [Fr.putK_iff]
theorem vcOperX_mono {L L' : Fr → St → Prop} {ops : Array Oper} {o : Oper} {fr : Fr} {st : St} (h1 : ∀ v st', L (fr.put o.dst v) st' → L' (fr.put o.dst v) st') (h : vcOperX P T ops o fr st L) : vcOperX P T ops o fr st L' :=
  vcOperX_iff.2 (guard0_mono (fun h => vcOpX_mono (fun v st' => h1 v st') h) (fun h => h1 _ _ h) (vcOperX_iff.1 h))
theorem vcOpsX_mono {L L' : Fr → St → Prop} {ops : Array Oper} : ∀ (l : List Oper) {fr : Fr} {st : St}, (∀ fr st, L fr st → L' fr st) → vcOpsX P T ops l fr st L → vcOpsX P T ops l fr st L'
  | [], _, _, hk, h => hk _ _ h
  | _ :: l, _, _, hk, h => vcOperX_mono (fun _ _ h => vcOpsX_mono l hk h) h
theorem vcOpsX_keeps {L : Fr → St → Prop} {ops : Array Oper} {W : List Nat} : ∀ (l : List Oper) {fr : Fr} {st : St}, (∀ o ∈ l, ∀ d, o.dst = some d → d ∈ W) → vcOpsX P T ops l fr st L → vcOpsX P T ops l fr st fun fr' st' => L fr' st' ∧ Keep W fr fr'
  | [], fr, st, _, h => ⟨h, .refl _ _⟩
  | o :: l, fr, st, hw, h => by
    refine vcOperX_mono (fun v st' h => ?_) h
    have hk : Keep W fr (fr.put o.dst v) := .put _ _ _ (hw o List.mem_cons_self)
    have := vcOpsX_keeps l (fun o' ho' => hw o' (List.mem_cons_of_mem _ ho')) h
    exact vcOpsX_mono l (fun fr' st' h => ⟨h.1, hk.trans h.2⟩) this
theorem callN_mono (hk : ∀ v st, K v st → K' v st) {f : FuncId} {args : List AV} {st : St} (h : callN P f args st K) : callN P f args st K' := by
  rcases h with ⟨h0, h1, h2⟩ | ⟨h0, h3, h1, h2⟩ | ⟨h1, h2⟩
  · exact .p h0 h1 (hk _ _ h2)
  · exact .w h0 h3 h1 (hk _ _ h2)
  · refine .s ⟨h1, fun base J w0 μ σ w vs a b c => (h2 base J w0 μ σ w vs a b c).mono ?_⟩
    rintro e w' ⟨v, r, st', μ', σ', q1, q2, q3⟩
    exact ⟨v, r, st', μ', σ', q1, ⟨q2.1, hk _ _ q2.2⟩, q3⟩
theorem vcOpN_mono (hk : ∀ v st, K v st → K' v st) {o : Op} {ρ : Operand → AV} {st : St} (h : vcOpN P T o ρ st K) : vcOpN P T o ρ st K' := by
  revert h
  unfold vcOpN
  repeat' split
  all_goals intro h
  all_goals first | exact callN_mono hk h | exact vcOpE_mono hk h | exact vcOp_mono hk h | exact h
theorem vcOperN_iff {L : Fr → St → Prop} {ops : Array Oper} {o : Oper} {fr : Fr} {st : St} : vcOperN P T ops o fr st L ↔ guard0 ops o.guard fr (vcOpN P T o.op fr.ev st fun v st' => L (fr.put o.dst v) st') (L (fr.put o.dst .un) st) := by
  unfold vcOperN
  rw [guardA_iff]
  simp only [Fr.putK_iff]
theorem vcOperN_mono {L L' : Fr → St → Prop} {ops : Array Oper} {o : Oper} {fr : Fr} {st : St} (h1 : ∀ v st', L (fr.put o.dst v) st' → L' (fr.put o.dst v) st') (h : vcOperN P T ops o fr st L) : vcOperN P T ops o fr st L' :=
  vcOperN_iff.2 (guard0_mono (fun h => vcOpN_mono (fun v st' => h1 v st') h) (fun h => h1 _ _ h) (vcOperN_iff.1 h))
theorem vcPlan_mono {L L' : Fr → St → Prop} {ops : Array Oper} : ∀ (p : Plan) {fr : Fr} {st : St}, (∀ fr st, L fr st → L' fr st) → vcPlan P T ops L p fr st → vcPlan P T ops L' p fr st
  | .done, _, _, hk, h => hk _ _ h
  | .one k p, fr, st, hk, h => by
    revert h
    unfold vcPlan
    split
    · exact vcOperN_mono fun _ _ h => vcPlan_mono p hk h
    · exact fun h => h
  | .only k p, fr, st, hk, h => by
    revert h
    unfold vcPlan
    split
    · exact vcOper_mono fun _ _ h => vcPlan_mono p hk h
    · exact fun h => h
  | .two j k p q, fr, st, hk, h => by
    revert h
    unfold vcPlan
    refine fun h => ⟨?_, ?_⟩
    · revert h
      split
      · exact fun h => vcOperN_mono (fun _ _ h => vcPlan_mono p hk h) h.1
      · exact fun h => h.1
    · have h := h.2
      revert h
      split
      · exact vcOperN_mono fun _ _ h => vcPlan_mono q hk h
      · exact fun h => h
  | .both j k p q, fr, st, hk, h => by
    revert h
    unfold vcPlan
    refine fun h => ⟨?_, ?_⟩
    · revert h
      split
      · exact fun h => vcOper_mono (fun _ _ h => vcPlan_mono p hk h) h.1
      · exact fun h => h.1
    · have h := h.2
      revert h
      split
      · exact vcOper_mono fun _ _ h => vcPlan_mono q hk h
      · exact fun h => h
theorem vcPlan_keeps {L : Fr → St → Prop} {ops : Array Oper} : ∀ (p : Plan) {fr : Fr} {st : St}, vcPlan P T ops L p fr st → vcPlan P T ops (fun fr' st' => L fr' st' ∧ Keep (dsts ops) fr fr') p fr st := by
  have one : ∀ (k : Nat) (p : Plan) (fr : Fr) (st : St) (o : Oper), ops[k]? = some o → (∀ {fr : Fr} {st : St}, vcPlan P T ops L p fr st → vcPlan P T ops (fun fr' st' => L fr' st' ∧ Keep (dsts ops) fr fr') p fr st) →
      vcOperN P T ops o fr st (fun fr' st' => vcPlan P T ops L p fr' st') → vcOperN P T ops o fr st (fun fr' st' => vcPlan P T ops (fun fr' st' => L fr' st' ∧ Keep (dsts ops) fr fr') p fr' st') := by
    intro k p fr st o ho ih h
    refine vcOperN_mono (fun v st' h => ?_) h
    have hmem : o ∈ ops.toList := Array.mem_toList_iff.2 (Array.mem_of_getElem? ho)
    have hk : Keep (dsts ops) fr (fr.put o.dst v) := .put _ _ _ (fun d hd => mem_dsts hmem hd)
    exact vcPlan_mono p (fun fr' st' h => ⟨h.1, hk.trans h.2⟩) (ih h)
  intro p
  induction p with
  | done => intro fr st h; exact ⟨h, .refl _ _⟩
  | one k p ih =>
    intro fr st h
    revert h
    unfold vcPlan
    split
    · rename_i o ho
      exact one k p fr st o ho ih
    · exact fun h => h
  | only k p ih =>
    intro fr st h
    revert h
    unfold vcPlan
    split
    · rename_i o ho
      intro h
      refine vcOper_mono (fun v st' h => ?_) h
      have hmem : o ∈ ops.toList := Array.mem_toList_iff.2 (Array.mem_of_getElem? ho)
      have hk : Keep (dsts ops) fr (fr.put o.dst v) := .put _ _ _ (fun d hd => mem_dsts hmem hd)
      exact vcPlan_mono p (fun fr' st' h => ⟨h.1, hk.trans h.2⟩) (ih h)
    · exact fun h => h
  | two j k p q ihp ihq =>
    intro fr st h
    revert h
    unfold vcPlan
    refine fun h => ⟨?_, ?_⟩
    · have h := h.1
      revert h
      split
      · rename_i o ho
        exact one j p fr st o ho ihp
      · exact fun h => h
    · have h := h.2
      revert h
      split
      · rename_i o ho
        exact one k q fr st o ho ihq
      · exact fun h => h
  | both j k p q ihp ihq =>
    intro fr st h
    revert h
    unfold vcPlan
    refine fun h => ⟨?_, ?_⟩
    · have h := h.1
      revert h
      split
      · rename_i o ho
        intro h
        refine vcOper_mono (fun v st' h => ?_) h
        have hmem : o ∈ ops.toList := Array.mem_toList_iff.2 (Array.mem_of_getElem? ho)
        have hk : Keep (dsts ops) fr (fr.put o.dst v) := .put _ _ _ (fun d hd => mem_dsts hmem hd)
        exact vcPlan_mono p (fun fr' st' h => ⟨h.1, hk.trans h.2⟩) (ihp h)
      · exact fun h => h
    · have h := h.2
      revert h
      split
      · rename_i o ho
        intro h
        refine vcOper_mono (fun v st' h => ?_) h
        have hmem : o ∈ ops.toList := Array.mem_toList_iff.2 (Array.mem_of_getElem? ho)
        have hk : Keep (dsts ops) fr (fr.put o.dst v) := .put _ _ _ (fun d hd => mem_dsts hmem hd)
        exact vcPlan_mono q (fun fr' st' h => ⟨h.1, hk.trans h.2⟩) (ihq h)
      · exact fun h => h
theorem vcDraw_mono {L L' : Fr → St → Prop} {ops : Array Oper} {fr : Fr} {st : St} (hk : ∀ fr st, L fr st → L' fr st) : VDraw P T ops L fr st → VDraw P T ops L' fr st
  | .e h hv => .e h (vcOpsX_mono _ hk hv)
  | .x h hv => .x h (vcOpsX_mono _ hk hv)
  | .any hv => .any (vcAny_mono _ _ hk hv)
  | .n p h hv => .n p h (vcPlan_mono p hk hv)
  | .cut p K' h hv hc => .cut p K' h hv fun fr' st' h' hk' => let ⟨fr0, h1, h2⟩ := hc fr' st' h' hk'; ⟨fr0, h1, hk _ _ h2⟩
theorem Keep.le {W : List Nat} {a b c : Fr} (h : Keep W a b) (k : Fr.le W b c) : Keep W a c := by
  have hk1 : b.length = c.length := k.1
  refine ⟨h.1.trans k.1, fun i hi => ?_⟩
  rw [← h.2 i hi]
  by_cases hl : i < b.length
  · have h1 : b[i]? = some b[i] := List.getElem?_eq_getElem hl
    have h2 : c[i]? = some (c[i]'(by rw [← hk1]; exact hl)) := List.getElem?_eq_getElem _
    rcases k.2 i _ _ h1 h2 with e | ⟨e, _⟩
    · rw [h1, h2, e]
    · exact absurd e hi
  · rw [List.getElem?_eq_none (by omega), List.getElem?_eq_none (by omega)]
theorem vcDraw_keeps {L : Fr → St → Prop} {ops : Array Oper} {fr : Fr} {st : St} : VDraw P T ops L fr st → VDraw P T ops (fun fr' st' => L fr' st' ∧ Keep (dsts ops) fr fr') fr st
  | .e h hv => .e h (vcOpsX_keeps _ (fun _ ho _ hd => mem_dsts ho hd) hv)
  | .x h hv => .x h (vcOpsX_keeps _ (fun _ ho _ hd => mem_dsts ho hd) hv)
  | .any hv => .any (vcAny_keeps _ _ hv)
  | .n p h hv => .n p h (vcPlan_keeps p hv)
  | .cut p K' h hv hc => .cut p K' h hv fun fr' st' h' hk' => let ⟨fr0, h1, h2⟩ := hc fr' st' h' hk'; ⟨fr0, h1, h2, hk'.le h1⟩

theorem Fr.le_refl (W : List Nat) (fr : Fr) : Fr.le W fr fr := ⟨rfl, fun i a b h1 h2 => .inl (by rw [h1] at h2; exact (Option.some.inj h2).symm)⟩
theorem vc_mono : ∀ (c : Code) {Q Q' : Exit → Fr → St → Prop} {fr : Fr} {st : St}, (∀ e fr st, Q e fr st → Q' e fr st) → vc P T c Q fr st → vc P T c Q' fr st := by
  intro c
  induction c with
  | skip => intro Q Q' fr st hk h; exact hk _ _ _ h
  | label l => intro Q Q' fr st hk h; exact hk _ _ _ h
  | exit id => intro Q Q' fr st hk h; exact hk _ _ _ h
  | ret => intro Q Q' fr st hk h; exact hk _ _ _ h
  | region id ops draw =>
    intro Q Q' fr st hk h
    cases draw with
    | false => exact vcOps_keeps.vcOps_mono _ (fun fr st => hk _ fr st) h
    | true =>
      have h' : VDraw P T ops (fun fr' st' => Q .normal fr' st') fr st := h
      show VDraw P T ops (fun fr' st' => Q' .normal fr' st') fr st
      exact vcDraw_mono (fun fr st => hk _ fr st) h'
  | seq x y ihx ihy =>
    intro Q Q' fr st hk h
    refine ihx (fun e fr st hq => ?_) h
    cases e with
    | normal => exact ihy hk hq
    | _ => exact hk _ _ _ hq
  | cond c x y ihx ihy =>
    intro Q Q' fr st hk h
    revert h
    simp only [vc]
    split
    · exact cnd_mono (ihx hk) (ihy hk)
    · exact fun h => h
  | block id b ih =>
    intro Q Q' fr st hk h
    refine ih (fun e fr st hq => ?_) h
    cases e with
    | exit id' =>
      revert hq
      simp only [blockQ]
      split
      · exact hk _ _ _
      · exact hk _ _ _
    | _ => exact hk _ _ _ hq
  | loop b ih =>
    intro Q Q' fr st hk h
    obtain ⟨I, h0, hr⟩ := h
    refine ⟨I, h0, fun g fr st hI => ih (fun e fr st hq => ?_) (hr g fr st hI)⟩
    cases e with
    | normal => exact hq
    | _ => obtain ⟨fr0, hl, hq⟩ := hq; exact ⟨fr0, hl, hk _ _ _ hq⟩
  | _ => intro Q Q' fr st hk h; exact h.elim

theorem vc_keeps : ∀ (c : Code) {Q : Exit → Fr → St → Prop} {fr : Fr} {st : St}, vc P T c Q fr st → vc P T c (fun e fr' st' => Q e fr' st' ∧ Keep (writes c) fr fr') fr st := by
  intro c
  induction c with
  | skip => intro Q fr st h; exact ⟨h, .refl _ _⟩
  | label l => intro Q fr st h; exact ⟨h, .refl _ _⟩
  | exit id => intro Q fr st h; exact ⟨h, .refl _ _⟩
  | ret => intro Q fr st h; exact ⟨h, .refl _ _⟩
  | region id ops draw =>
    intro Q fr st h
    cases draw with
    | false => exact vcOps_keeps _ (fun o ho d hd => mem_dsts ho hd) h
    | true =>
      have h' : VDraw P T ops (fun fr' st' => Q .normal fr' st') fr st := h
      show VDraw P T ops (fun fr' st' => Q .normal fr' st' ∧ Keep (dsts ops) fr fr') fr st
      exact vcDraw_keeps h'
  | seq x y ihx ihy =>
    intro Q fr st h
    refine vc_mono x (fun e fr1 st1 hq => ?_) (ihx h)
    cases e with
    | normal =>
      refine vc_mono y (fun e fr2 st2 hq2 => ?_) (ihy hq.1)
      exact ⟨hq2.1, (hq.2.mono fun i hi => List.mem_append_left _ hi).trans (hq2.2.mono fun i hi => List.mem_append_right _ hi)⟩
    | _ => exact ⟨hq.1, hq.2.mono fun i hi => List.mem_append_left _ hi⟩
  | cond c x y ihx ihy =>
    intro Q fr st h
    revert h
    simp only [vc]
    split
    · exact cnd_mono (fun h => vc_mono x (fun e fr st hq => ⟨hq.1, hq.2.mono fun i hi => List.mem_append_left _ hi⟩) (ihx h)) (fun h => vc_mono y (fun e fr st hq => ⟨hq.1, hq.2.mono fun i hi => List.mem_append_right _ hi⟩) (ihy h))
    · exact fun h => h
  | block id b ih =>
    intro Q fr st h
    refine vc_mono b (fun e fr1 st1 hq => ?_) (ih h)
    obtain ⟨hq, hk⟩ := hq
    cases e with
    | exit id' =>
      revert hq
      simp only [blockQ]
      split
      · exact fun hq => ⟨hq, hk⟩
      · exact fun hq => ⟨hq, hk⟩
    | _ => exact ⟨hq, hk⟩
  | loop b ih =>
    intro Q fr st h
    obtain ⟨I, ⟨g0, fr0, hle, hI⟩, hr⟩ := h
    have keep_le : ∀ {a b : Fr} {W : List Nat}, Fr.le W a b → Keep W a b := fun {a b W} hl => ⟨hl.1, fun i hi => by
      have hl1 := hl.1
      by_cases hlt : i < a.length
      · have h1 : a[i]? = some a[i] := List.getElem?_eq_getElem hlt
        have h2 : b[i]? = some (b[i]'(by have := hl.1; omega)) := List.getElem?_eq_getElem _
        rcases hl.2 i _ _ h1 h2 with e | ⟨hw, _⟩
        · rw [h1, h2, e]
        · exact absurd hw hi
      · rw [List.getElem?_eq_none (by omega), List.getElem?_eq_none (by omega)]⟩
    refine ⟨fun g fr1 st1 => I g fr1 st1 ∧ Keep (writes b) fr fr1, ⟨g0, fr0, hle, hI, keep_le hle⟩, fun g fr1 st1 hI1 => vc_mono b (fun e fr2 st2 hq => ?_) (ih (hr g fr1 st1 hI1.1))⟩
    obtain ⟨hq, hk⟩ := hq
    cases e with
    | normal =>
      obtain ⟨g', fr3, hlt, hle3, hI3⟩ := hq
      exact ⟨g', fr3, hlt, hle3, hI3, (hI1.2.trans hk).trans (keep_le hle3)⟩
    | _ => obtain ⟨fr3, hle3, hq⟩ := hq; exact ⟨fr3, hle3, hq, (hI1.2.trans hk).trans (keep_le hle3)⟩
  | _ => intro Q fr st h; exact h.elim

def memN : Nat → List Nat → Bool
  | _, [] => false
  | n, m :: r => match Nat.beq n m with | true => true | false => memN n r
theorem memN_iff {n : Nat} : ∀ {l : List Nat}, memN n l = true ↔ n ∈ l
  | [] => by simp [memN]
  | m :: r => by
    unfold memN
    split
    · rename_i h
      have h := Nat.eq_of_beq_eq_true h
      simp [h]
    · rename_i h
      have hne : n ≠ m := fun e => by rw [e, Nat.beq_refl] at h; cases h
      simp [memN_iff (l := r), hne]
/-- a frame at a loop's head: the slots that the loop writes are forgotten, but for those that live. -/
def topL (W : List Nat) : Nat → Fr → Fr
  | _, [] => []
  | n, a :: r => (match memN n W with | true => .top | false => a) :: topL W (n + 1) r
def tops (W : List Nat) (fr : Fr) : Fr := topL W 0 fr
def natsK : List Nat → (List Nat → Prop) → Prop
  | [], K => K []
  | n :: r, K => natsK r fun r' => K (n :: r')
theorem natsK_iff : ∀ {l : List Nat} {K : List Nat → Prop}, natsK l K ↔ K l
  | [], _ => Iff.rfl
  | n :: r, K => by
    unfold natsK
    exact natsK_iff
def sets : List Nat → List AV → Fr → Fr
  | i :: is, v :: vs, fr => sets is vs (fr.set i v)
  | _, _, fr => fr
def slots (is : List Nat) (fr : Fr) : List AV := is.map fun i => fr.getD i .un

theorem topL_len (W : List Nat) : ∀ (n : Nat) (fr : Fr), (topL W n fr).length = fr.length
  | _, [] => rfl
  | n, a :: r => by simp [topL, topL_len W (n + 1) r]
theorem topL_get (W : List Nat) : ∀ (n : Nat) (fr : Fr) (i : Nat) (a : AV), (topL W n fr)[i]? = some a → (n + i ∈ W ∧ a = .top) ∨ (n + i ∉ W ∧ fr[i]? = some a)
  | _, [], i, a, h => by simp [topL] at h
  | n, b :: r, 0, a, h => by
    simp only [topL, List.getElem?_cons_zero, Option.some.injEq] at h
    split at h
    · rename_i hm; exact .inl ⟨memN_iff.1 hm, h.symm⟩
    · rename_i hm; exact .inr ⟨(fun hw => by
        rw [Nat.add_zero] at hw
        rw [memN_iff.2 hw] at hm; cases hm), by simpa using h⟩
  | n, b :: r, i + 1, a, h => by
    simp only [topL, List.getElem?_cons_succ] at h
    have := topL_get W (n + 1) r i a h
    rw [show n + 1 + i = n + (i + 1) by omega] at this
    simpa using this
theorem tops_len (W : List Nat) (fr : Fr) : (tops W fr).length = fr.length := topL_len W 0 fr
theorem tops_get (W : List Nat) (fr : Fr) (i : Nat) (a : AV) (h : (tops W fr)[i]? = some a) : (i ∈ W ∧ a = .top) ∨ (i ∉ W ∧ fr[i]? = some a) := by
  have := topL_get W 0 fr i a h
  rwa [Nat.zero_add] at this
theorem sets_len : ∀ (is : List Nat) (vs : List AV) (fr : Fr), (sets is vs fr).length = fr.length
  | [], _, _ => rfl
  | _ :: _, [], _ => rfl
  | i :: is, v :: vs, fr => by rw [sets, sets_len is vs]; simp
theorem sets_get : ∀ (is : List Nat) (vs : List AV) (fr : Fr) (i : Nat) (a : AV), (sets is vs fr)[i]? = some a → (∃ (k : Nat), is[k]? = some i ∧ vs[k]? = some a) ∨ (fr[i]? = some a)
  | [], _, _, _, _, h => .inr h
  | _ :: _, [], _, _, _, h => .inr h
  | j :: is, v :: vs, fr, i, a, h => by
    rw [sets] at h
    rcases sets_get is vs _ i a h with ⟨k, h1, h2⟩ | h1
    · exact .inl ⟨k + 1, h1, h2⟩
    · by_cases e : j = i
      · subst e
        have hl := (List.getElem?_eq_some_iff.1 h1).1
        rw [List.length_set] at hl
        rw [List.getElem?_set_self hl] at h1
        exact .inl ⟨0, rfl, by simpa using h1⟩
      · rw [List.getElem?_set_ne e] at h1
        exact .inr h1

/-- a loop: what holds of the slots that live, with a number that every round lowers -/
def liveB (W : List Nat) (n : Nat) : List Nat → Bool
  | [] => true
  | i :: r => match memN i W with | true => (match Nat.ble (i + 1) n with | true => liveB W n r | false => false) | false => false
theorem liveB_iff {W : List Nat} {n : Nat} : ∀ {l : List Nat}, liveB W n l = true → ∀ i ∈ l, i ∈ W ∧ i < n
  | [], _, i, hi => by simp at hi
  | j :: r, h, i, hi => by
    unfold liveB at h
    split at h
    · rename_i h1
      split at h
      · rename_i h2
        rcases List.mem_cons.1 hi with rfl | hi
        · exact ⟨memN_iff.1 h1, Nat.le_of_ble_eq_true h2⟩
        · exact liveB_iff h i hi
      · cases h
    · cases h
theorem vc_loopG {b : Code} {Q : Exit → Fr → St → Prop} {fr : Fr} {st : St} (live : List Nat) (I : Nat → List AV → St → Prop) (Q' : Exit → Fr → St → Prop) (hQ : ∀ e fr' st', e ≠ .normal → Q' e fr' st' → Keep (writes b) fr fr' → ∃ fr0, Fr.le (writes b) fr' fr0 ∧ Q e fr0 st') (g0 : Nat) (hin : liveB (writes b) fr.length live = true) (h0 : I g0 (slots live fr) st)
    (round : ∀ g vals st, I g vals st → natsK (writes b) fun W => listK (sets live vals (topL W 0 fr)) fun fr1 => vc P T b (seqQ (fun fr' st' => ∃ g', g' < g ∧ I g' (slots live fr') st') Q') fr1 st) : VLoop (fun Q' fr' st' => vc P T b Q' fr' st') (writes b) Q fr st := by
  have hin := liveB_iff hin
  have round : ∀ g vals st, I g vals st → vc P T b (seqQ (fun fr' st' => ∃ g', g' < g ∧ I g' (slots live fr') st') Q') (sets live vals (tops (writes b) fr)) st := fun g vals st hI => listK_iff.1 (natsK_iff.1 (round g vals st hI))
  have le1 : ∀ (fr1 : Fr), Keep (writes b) fr fr1 → Fr.le (writes b) fr1 (sets live (slots live fr1) (tops (writes b) fr)) := by
    intro fr1 hk
    refine ⟨by rw [sets_len, tops_len]; exact hk.1.symm, fun i a c ha hc => ?_⟩
    rcases sets_get _ _ _ _ _ hc with ⟨k, h1, h2⟩ | h1
    · left
      simp only [slots, List.getElem?_map, h1, Option.map_some, Option.some.injEq] at h2
      rw [← h2, List.getD_eq_getElem?_getD, ha]; rfl
    · rcases tops_get _ _ _ _ h1 with ⟨h2, h3⟩ | ⟨h2, h3⟩
      · exact .inr ⟨h2, .inr (.inl h3)⟩
      · rw [← hk.2 i h2, ha] at h3
        exact .inl (Option.some.inj h3).symm
  refine ⟨fun g fr1 st1 => ∃ vals, I g vals st1 ∧ fr1 = sets live vals (tops (writes b) fr) ∧ vals.length = live.length, ⟨g0, _, le1 fr (.refl _ _), _, h0, rfl, by simp [slots]⟩, ?_⟩
  rintro g fr1 st1 ⟨vals, hI, rfl, hvl⟩
  refine vc_mono b (fun e fr2 st2 hq => ?_) (vc_keeps b (round g vals st1 hI))
  obtain ⟨hq, hk⟩ := hq
  have hkk : Keep (writes b) fr fr2 := ⟨by rw [← hk.1, sets_len, tops_len], fun i hi => by
      rw [hk.2 i hi]
      by_cases hl : i < fr.length
      · have h1 : (sets live vals (tops (writes b) fr))[i]? = some ((sets live vals (tops (writes b) fr))[i]'(by rw [sets_len, tops_len]; exact hl)) := List.getElem?_eq_getElem _
        rcases sets_get _ _ _ _ _ h1 with ⟨k, h2, _⟩ | h2
        · exact absurd (hin i (List.mem_of_getElem? h2)).1 hi
        · rcases tops_get _ _ _ _ h2 with ⟨h3, _⟩ | ⟨_, h3⟩
          · exact absurd h3 hi
          · rw [h1, h3]
      · rw [List.getElem?_eq_none (by rw [sets_len, tops_len]; omega), List.getElem?_eq_none (by omega)]⟩
  cases e with
  | normal =>
    obtain ⟨g', hlt, hI'⟩ := hq
    exact ⟨g', _, hlt, le1 fr2 hkk, _, hI', rfl, by simp [slots]⟩
  | _ => exact hQ _ _ _ (fun h => by cases h) hq hkk
theorem vc_loop {b : Code} {Q : Exit → Fr → St → Prop} {fr : Fr} {st : St} (live : List Nat) (I : Nat → List AV → St → Prop) (g0 : Nat) (hin : liveB (writes b) fr.length live = true) (h0 : I g0 (slots live fr) st)
    (round : ∀ g vals st, I g vals st → natsK (writes b) fun W => listK (sets live vals (topL W 0 fr)) fun fr1 => vc P T b (seqQ (fun fr' st' => ∃ g', g' < g ∧ I g' (slots live fr') st') Q) fr1 st) : VLoop (fun Q' fr' st' => vc P T b Q' fr' st') (writes b) Q fr st :=
  vc_loopG live I Q (fun _ fr' _ _ hq _ => ⟨fr', Fr.le_refl _ _, hq⟩) g0 hin h0 round
/-- a region whose order is drawn: behind it just this is kept of the slots that live -/
theorem vc_cut {ops : Array Oper} {K : Fr → St → Prop} {fr : Fr} {st : St} (live : List Nat) (I : List AV → St → Prop) (p : Plan) (hp : planOk ops p = true) (hin : liveB (dsts ops) fr.length live = true)
    (hv : vcPlan P T ops (fun fr' st' => I (slots live fr') st') p fr st) (rest : ∀ vals st', I vals st' → natsK (dsts ops) fun W => listK (sets live vals (topL W 0 fr)) fun fr1 => K fr1 st') : VDraw P T ops K fr st := by
  have rest : ∀ vals st', I vals st' → K (sets live vals (tops (dsts ops) fr)) st' := fun vals st' hI => listK_iff.1 (natsK_iff.1 (rest vals st' hI))
  refine .cut p _ hp hv fun fr1 st1 hI hk => ⟨sets live (slots live fr1) (tops (dsts ops) fr), ?_, rest _ _ hI⟩
  refine ⟨by rw [sets_len, tops_len]; exact hk.1.symm, fun i a c ha hc => ?_⟩
  rcases sets_get _ _ _ _ _ hc with ⟨k, h1, h2⟩ | h1
  · left
    simp only [slots, List.getElem?_map, h1, Option.map_some, Option.some.injEq] at h2
    rw [← h2, List.getD_eq_getElem?_getD, ha]; rfl
  · rcases tops_get _ _ _ _ h1 with ⟨h2, h3⟩ | ⟨h2, h3⟩
    · exact .inr ⟨h2, .inr (.inl h3)⟩
    · rw [← hk.2 i h2, ha] at h3
      exact .inl (Option.some.inj h3).symm
end

section
variable {P : Program} {T : Tab} {K : AV → St → Prop}

/-- it depends on its operands alone -/
theorem vcOp_congr {o : Op} {ρ ρ' : Operand → AV} (h : ∀ x ∈ o.operands, ρ x = ρ' x) (st : St) (K : AV → St → Prop) : vcOp P T o ρ st K = vcOp P T o ρ' st K := by
  have hm : ∀ (xs : Array Operand), (∀ x ∈ xs, ρ x = ρ' x) → xs.toList.map ρ = xs.toList.map ρ' := fun xs hx => List.map_congr_left fun x hx' => hx x (Array.mem_toList_iff.1 hx')
  have hp : ∀ (ps : Array (Nat × Operand)), (∀ x ∈ (ps.toList.map (·.2)).toArray, ρ x = ρ' x) → ps.toList.map (fun p => (p.1, ρ p.2)) = ps.toList.map (fun p => (p.1, ρ' p.2)) := fun ps hx => List.map_congr_left fun p hp' => by
    rw [hx p.2 (by simpa using ⟨p.1, by simpa using hp'⟩)]
  cases o with
  | move x => simp only [vcOp, h x (by simp [Op.operands])]
  | assign x => simp only [vcOp, h x (by simp [Op.operands])]
  | pick c a b => simp only [vcOp, h c (by simp [Op.operands]), h a (by simp [Op.operands]), h b (by simp [Op.operands])]
  | box t x => simp only [vcOp, h x (by simp [Op.operands])]
  | build t ps => simp only [vcOp, hp ps h]
  | buildSlice t n ps => simp only [vcOp, hp ps h]
  | load t a => simp only [vcOp, h a (by simp [Op.operands])]
  | makeSlice t l c => simp only [vcOp, h l (by simp [Op.operands]), h c (by simp [Op.operands])]
  | store t a x => simp only [vcOp, h a (by simp [Op.operands]), h x (by simp [Op.operands])]
  | nilCheck x => simp only [vcOp, h x (by simp [Op.operands])]
  | typeAssert x xt t ok => simp only [vcOp, h x (by simp [Op.operands])]
  | binOp op t x y ty => simp only [vcOp, h x (by simp [Op.operands]), h y (by simp [Op.operands])]
  | unOp op t x => simp only [vcOp, h x (by simp [Op.operands])]
  | convert s d x => simp only [vcOp, h x (by simp [Op.operands])]
  | makeFunc f a c =>
    simp only [vcOp]
    rw [hm a (fun x hx => h x (by simp [Op.operands, hx])), hm c (fun x hx => h x (by simp [Op.operands, hx]))]
  | slice t x lo hi mx =>
    cases mx with
    | some m => rfl
    | none =>
      simp only [vcOp, h x (by simp [Op.operands])]
      cases lo with
      | none =>
        cases hi with
        | none => rfl
        | some b => simp only [Option.map_some, Option.map_none, h b (by simp [Op.operands])]
      | some a =>
        cases hi with
        | none => simp only [Option.map_some, Option.map_none, h a (by simp [Op.operands])]
        | some b => simp only [Option.map_some, h a (by simp [Op.operands]), h b (by simp [Op.operands])]
  | fieldAddr s x f => simp only [vcOp, h x (by simp [Op.operands])]
  | field s x f => simp only [vcOp, h x (by simp [Op.operands])]
  | indexAddr t x i => simp only [vcOp, h x (by simp [Op.operands]), h i (by simp [Op.operands])]
  | index t x i => simp only [vcOp, h x (by simp [Op.operands]), h i (by simp [Op.operands])]
  | extract x i => simp only [vcOp, h x (by simp [Op.operands])]
  | call c =>
    have ha : c.args.toList.map ρ = c.args.toList.map ρ' := hm c.args fun x hx => h x (by simp [Op.operands, Call.operands, hx])
    have ha' : ∀ x ∈ c.args.toList, ρ x = ρ' x := fun x hx => h x (by simp [Op.operands, Call.operands, Array.mem_toList_iff.1 hx])
    simp only [vcOp]
    cases hc : c.callee with
    | value f =>
      simp only
      rw [ha, h f (by simp [Op.operands, Call.operands, hc])]
    | invoke r m => rfl
    | builtin b =>
      cases b <;> try rfl
      case len =>
        simp only
        cases hl : c.args.toList with
        | nil => rfl
        | cons x r =>
          rw [hl] at ha'
          cases r with
          | nil => simp only [ha' x List.mem_cons_self]
          | cons y r => rfl
      case clear =>
        simp only
        cases hl : c.args.toList with
        | nil => rfl
        | cons x r =>
          rw [hl] at ha'
          cases r with
          | nil => simp only [ha' x List.mem_cons_self]
          | cons y r => rfl
      case append =>
        simp only
        cases hl : c.args.toList with
        | nil => rfl
        | cons x r =>
          rw [hl] at ha'
          cases r with
          | nil => rfl
          | cons y r =>
            cases r with
            | nil => simp only [ha' x List.mem_cons_self, ha' y (List.mem_cons_of_mem _ List.mem_cons_self)]
            | cons z r => rfl
      case copy =>
        simp only
        cases hl : c.args.toList with
        | nil => rfl
        | cons x r =>
          rw [hl] at ha'
          cases r with
          | nil => rfl
          | cons y r =>
            cases r with
            | nil => simp only [ha' x List.mem_cons_self, ha' y (List.mem_cons_of_mem _ List.mem_cons_self)]
            | cons z r => rfl
      case cap =>
        simp only
        cases hl : c.args.toList with
        | nil => rfl
        | cons x r =>
          rw [hl] at ha'
          cases r with
          | nil => simp only [ha' x List.mem_cons_self]
          | cons y r => rfl
      case min =>
        simp only
        cases hl : c.args.toList with
        | nil => rfl
        | cons x r =>
          rw [hl] at ha'
          simp only [ha' x List.mem_cons_self, List.map_congr_left fun z hz => ha' z (List.mem_cons_of_mem _ hz)]
      case max =>
        simp only
        cases hl : c.args.toList with
        | nil => rfl
        | cons x r =>
          rw [hl] at ha'
          simp only [ha' x List.mem_cons_self, List.map_congr_left fun z hz => ha' z (List.mem_cons_of_mem _ hz)]
  | _ => rfl
theorem okE_congr {o : Op} {ρ ρ' : Operand → AV} (h : ∀ x ∈ o.operands, ρ x = ρ' x) : okE o ρ = okE o ρ' := by
  cases o with
  | call c =>
    have ha' : ∀ x ∈ c.args.toList, ρ x = ρ' x := fun x hx => h x (by simp [Op.operands, Call.operands, Array.mem_toList_iff.1 hx])
    cases hc : c.callee with
    | builtin b =>
      cases b
      case append =>
        cases hl : c.args.toList with
        | nil => simp only [okE, hc, hl]
        | cons s r => simp only [okE, hc, hl, ha' s (by rw [hl]; exact List.mem_cons_self)]
      all_goals simp only [okE, hc]
    | _ => simp only [okE, hc]
  | _ => rfl
theorem vcOpE_congr {o : Op} {ρ ρ' : Operand → AV} (h : ∀ x ∈ o.operands, ρ x = ρ' x) (st : St) (K : AV → St → Prop) : vcOpE P T o ρ st K = vcOpE P T o ρ' st K := by
  rw [propext vcOpE_iff, propext vcOpE_iff, okE_congr h, vcOp_congr h st K]
theorem vcOpX_congr {o : Op} {ρ ρ' : Operand → AV} (h : ∀ x ∈ o.operands, ρ x = ρ' x) (st : St) (K : AV → St → Prop) : vcOpX P T o ρ st K = vcOpX P T o ρ' st K := by
  cases o with
  | call c =>
    have ha : c.args.toList.map ρ = c.args.toList.map ρ' := List.map_congr_left fun x hx => h x (by simp [Op.operands, Call.operands, Array.mem_toList_iff.1 hx])
    simp only [vcOpX]
    cases hc : c.callee with
    | value f =>
      simp only
      rw [ha, h f (by simp [Op.operands, Call.operands, hc])]
    | invoke r m => rfl
    | builtin b => exact vcOpE_congr (P := P) (T := T) h st K
  | _ => exact vcOp_congr (P := P) (T := T) h st K

/-- an operation that turns no variable has one value, in every state with the same variables (or whatever they are) -/
def Det (V : Op → (Operand → AV) → St → (AV → St → Prop) → Prop) (k : Nat) (o : Op) : Prop :=
  ∀ (ρ : Operand → AV) (st : St) (K : AV → St → Prop), V o ρ st K → ∃ v, (∀ (st' : St) (K' : AV → St → Prop), (k = 1 → Pre st st') → K' v st' → V o ρ st' K') ∧ K v st

theorem cnd_val {α : Type} {b : Bool} {x y : α} {K : α → Prop} (h : cnd b (K x) (K y)) : K (if b then x else y) := by cases b <;> exact h
theorem val_cnd {α : Type} {b : Bool} {x y : α} {K : α → Prop} (h : K (if b then x else y)) : cnd b (K x) (K y) := by cases b <;> exact h
theorem binInt_det {op : BinOp} {k : IntKind} {a b : Int} {K1 : AV → Prop} (h : binInt op k a b K1) : ∃ v, (∀ K' : AV → Prop, K' v → binInt op k a b K') ∧ K1 v := by
  cases op <;> simp only [binInt] at h ⊢ <;> first
    | exact ⟨_, fun K' hk c hc => by subst hc; exact hk, h _ rfl⟩
    | exact ⟨_, fun K' hk => ⟨h.1, fun c hc => by subst hc; exact hk⟩, h.2 _ rfl⟩
    | exact ⟨_, fun K' hk => ⟨h.1, hk⟩, h.2⟩
    | exact ⟨_, fun K' hk => hk, h⟩
theorem binStr_det {op : BinOp} {a b : ByteArray} {K1 : AV → Prop} (h : binStr op a b K1) : ∃ v, (∀ K' : AV → Prop, K' v → binStr op a b K') ∧ K1 v := by
  cases op <;> simp only [binStr] at h ⊢
  case add => exact ⟨_, fun K' hk => ⟨h.1, hk⟩, h.2⟩
  case eql =>
    by_cases e : a = b
    · exact ⟨.b true, fun K' hk t ht => by rw [ht.2 e]; exact hk, h true ⟨fun _ => e, fun _ => rfl⟩⟩
    · exact ⟨.b false, fun K' hk t ht => by rw [show t = false from by cases t with | false => rfl | true => exact absurd (ht.1 rfl) e]; exact hk, h false ⟨fun h => by (cases h), fun h => absurd h e⟩⟩
  case neq =>
    by_cases e : a = b
    · exact ⟨.b false, fun K' hk t ht => by rw [ht.2 e]; exact hk, h false ⟨fun _ => e, fun _ => rfl⟩⟩
    · exact ⟨.b true, fun K' hk t ht => by rw [show t = true from by cases t with | true => rfl | false => exact absurd (ht.1 rfl) e]; exact hk, h true ⟨fun h => by (cases h), fun h => absurd h e⟩⟩
  case lss => exact ⟨_, fun K' hk => hk, h⟩
  case leq => exact ⟨_, fun K' hk t ht => by subst ht; exact hk, h _ rfl⟩
  case gtr => exact ⟨_, fun K' hk t ht => by subst ht; exact hk, h _ rfl⟩
  case geq => exact ⟨_, fun K' hk => hk, h⟩
theorem eqlB_det {op : BinOp} {t : Bool} {K1 : AV → Prop} (h : eqlB op t K1) : ∃ v, (∀ K' : AV → Prop, K' v → eqlB op t K') ∧ K1 v := by
  cases op <;> simp only [eqlB] at h ⊢ <;> exact ⟨_, fun K' hk => hk, h⟩
theorem vcBin_det {op : BinOp} {t : TypeId} {x y : AV} {K1 : AV → Prop} (h : vcBin P T op t x y K1) : ∃ v, (∀ K' : AV → Prop, K' v → vcBin P T op t x y K') ∧ K1 v := by
  revert h
  unfold vcBin
  repeat' split
  all_goals intro h
  all_goals first
    | exact binInt_det h
    | exact binStr_det h
    | exact eqlB_det h
    | (rename_i A _
       rcases Classical.em A with e | e
       · obtain ⟨v, h1, h2⟩ := eqlB_det (h.2 true ⟨fun _ => e, fun _ => rfl⟩)
         exact ⟨v, fun K' hk => ⟨h.1, fun q hq => by rw [hq.2 e]; exact h1 K' hk⟩, h2⟩
       · obtain ⟨v, h1, h2⟩ := eqlB_det (h.2 false ⟨fun h => by (cases h), fun h => absurd h e⟩)
         exact ⟨v, fun K' hk => ⟨h.1, fun q hq => by rw [show q = false from by cases q with | false => rfl | true => exact absurd (hq.1 rfl) e]; exact h1 K' hk⟩, h2⟩)
    | exact h.elim
    | exact h.2.elim
theorem vcNilI_det {op : BinOp} {t : TypeId} {x y : AV} {K1 : AV → Prop} (h : vcNilI P op t x y K1) : ∃ v, (∀ K' : AV → Prop, K' v → vcNilI P op t x y K') ∧ K1 v := by
  obtain ⟨h0, h⟩ := h
  unfold vcNilI
  revert h
  split <;> intro h
  · obtain ⟨v, h1, h2⟩ := eqlB_det h
    exact ⟨v, fun K' hk => ⟨h0, h1 K' hk⟩, h2⟩
  · obtain ⟨v, h1, h2⟩ := eqlB_det h
    exact ⟨v, fun K' hk => ⟨h0, h1 K' hk⟩, h2⟩
  · exact h.elim
theorem vcUn_det {op : UnOp} {x : AV} {K1 : AV → Prop} (h : vcUn op x K1) : ∃ v, (∀ K' : AV → Prop, K' v → vcUn op x K') ∧ K1 v := by
  revert h
  unfold vcUn
  split <;> intro h <;> first | exact ⟨_, fun K' hk => hk, h⟩ | exact ⟨_, fun K' hk c hc => by subst hc; exact hk, h _ rfl⟩ | exact h.elim
theorem ldA_det {i : TI} {cs : List AV} {off : Nat} {K1 : AV → Prop} (h : ldA i cs off K1) : ∃ v, (∀ K' : AV → Prop, K' v → ldA i cs off K') ∧ K1 v := by
  revert h
  unfold ldA
  split <;> (try split) <;> intro h <;> first | exact ⟨_, fun K' hk => listK_iff.2 hk, listK_iff.1 h⟩ | exact ⟨_, fun K' hk => hk, h⟩ | exact h.elim
theorem bndA_det {x : Option AV} {d : Nat} {L : Nat → Prop} (h : bndA x d L) : ∃ k, (∀ L' : Nat → Prop, L' k → bndA x d L') ∧ L k := by
  revert h
  unfold bndA
  split <;> intro h <;> first | exact ⟨_, fun L' hk => hk, h⟩ | (obtain ⟨k, h1, h2⟩ := h; exact ⟨k, fun L' hk => ⟨k, h1, hk⟩, h2⟩) | exact h.elim
theorem vcSlice_det {t : TypeId} {x : AV} {lo hi : Option AV} {K1 : AV → Prop} (h : vcSlice T t x lo hi K1) : ∃ v, (∀ K' : AV → Prop, K' v → vcSlice T t x lo hi K') ∧ K1 v := by
  revert h
  unfold vcSlice
  repeat' split
  all_goals intro h
  all_goals first
    | exact h.elim
    | (obtain ⟨k, h1, h2⟩ := bndA_det h; obtain ⟨l, h3, h4⟩ := bndA_det h2; exact ⟨_, fun K' hk => h1 _ (h3 _ ⟨h4.1, h4.2.1, hk⟩), h4.2.2⟩)
    | (obtain ⟨k, h1, h2⟩ := bndA_det h; obtain ⟨l, h3, h4⟩ := bndA_det h2; exact ⟨_, fun K' hk => h1 _ (h3 _ ⟨h4.1, h4.2.1, fun lo' hl => by subst hl; exact hk⟩), h4.2.2 _ rfl⟩)
    | (obtain ⟨k, h1, h2⟩ := bndA_det h; exact ⟨_, fun K' hk => h1 _ ⟨h2.1, hk⟩, h2.2⟩)
theorem minA_det {op : Int → Int → Int} : ∀ {r : List AV} {x : AV} {K1 : AV → Prop}, minA op x r K1 → ∃ v, (∀ K' : AV → Prop, K' v → minA op x r K') ∧ K1 v
  | [], _, _, h => ⟨_, fun K' hk => hk, h⟩
  | y :: r, x, K1, h => by
    revert h
    unfold minA
    split
    · exact fun h => minA_det h
    · exact fun h => h.elim
theorem vcLenS_det {x : AV} {K1 : AV → Prop} (h : vcLenS x K1) : ∃ v, (∀ K' : AV → Prop, K' v → vcLenS x K') ∧ K1 v := by
  revert h
  unfold vcLenS
  split <;> intro h <;> first | exact ⟨_, fun K' hk => hk, h⟩ | exact h.elim
theorem vcLenL_det {x : AV} {K1 : AV → Prop} (h : vcLenL x K1) : ∃ v, (∀ K' : AV → Prop, K' v → vcLenL x K') ∧ K1 v := by
  revert h
  unfold vcLenL
  split <;> intro h <;> first | exact ⟨_, fun K' hk => hk, h⟩ | exact h.elim
theorem vcExt_det {x : AV} {i : Nat} {K1 : AV → Prop} (h : vcExt x i K1) : ∃ v, (∀ K' : AV → Prop, K' v → vcExt x i K') ∧ K1 v := by
  revert h
  unfold vcExt
  split <;> (try split) <;> intro h <;> first | exact ⟨_, fun K' hk => hk, h⟩ | exact h.elim

theorem vcOp_det {x : Bool} {o : Op} (hc : cls x o ≤ 1) (hcall : ∀ c f, o = .call c → c.callee ≠ .value f) : Det (vcOp P T) (cls x o) o := by
  intro ρ st K h
  cases o <;> simp only [vcOp, AV.fc_iff, listK_iff, listLK_iff] at h ⊢ <;> try exact h.elim
  case move x => exact ⟨_, fun st' K' _ hk => hk, h⟩
  case assign x => exact ⟨_, fun st' K' _ hk => hk, h⟩
  case makeFunc f a c => exact ⟨_, fun st' K' _ hk => hk, h⟩
  case pick c a b =>
    revert h
    split <;> intro h
    · exact ⟨_, fun st' K' _ hk => val_cnd (K := fun v => K' v st') hk, cnd_val (K := fun v => K v st) h⟩
    · exact h.elim
  case alloc t => simp [cls] at hc
  case box t x => simp [cls] at hc
  case makeSlice t l c => simp [cls] at hc
  case store t a x => simp [cls] at hc
  case build t parts =>
    revert h
    repeat' split
    all_goals intro h
    all_goals first | exact ⟨_, fun st' K' _ hk => hk, h⟩ | exact h.elim
  case buildSlice t len parts =>
    revert h
    repeat' split
    all_goals intro h
    all_goals first | exact ⟨_, fun st' K' _ hk => hk, h⟩ | exact h.elim
  case load t a =>
    have hk1 : cls x (.load t a) = 1 := rfl
    revert h
    repeat' split
    all_goals intro h
    all_goals first
      | exact h.elim
      | (obtain ⟨cs, h1, h2⟩ := h; obtain ⟨v, h3, h4⟩ := ldA_det h2; exact ⟨v, fun st' K' hh hk => ⟨cs, (hh hk1).at' h1, h3 _ hk⟩, h4⟩)
      | (obtain ⟨v, h3, h4⟩ := ldA_det h; exact ⟨v, fun st' K' hh hk => h3 _ hk, h4⟩)
  case nilCheck x =>
    revert h
    repeat' split
    all_goals intro h
    all_goals first | exact ⟨_, fun st' K' _ hk => hk, h⟩ | exact h.elim
  case typeAssert x xt t ok =>
    revert h
    repeat' split
    all_goals intro h
    all_goals first | exact ⟨_, fun st' K' _ hk => hk, h⟩ | exact h.elim
  case binOp op t x y ty =>
    revert h
    split <;> intro h
    · obtain ⟨v, h1, h2⟩ := vcNilI_det h
      exact ⟨v, fun st' K' _ hk => h1 _ hk, h2⟩
    · obtain ⟨v, h1, h2⟩ := vcBin_det h
      exact ⟨v, fun st' K' _ hk => h1 _ hk, h2⟩
  case unOp op t x =>
    obtain ⟨v, h1, h2⟩ := vcUn_det h
    exact ⟨v, fun st' K' _ hk => h1 _ hk, h2⟩
  case convert src dst y =>
    have hk1 : cls x (.convert src dst y) = 1 := rfl
    revert h
    repeat' split
    all_goals intro h
    all_goals first
      | exact h.elim
      | (obtain ⟨cs, b, h1, h2, h3, h4⟩ := h; exact ⟨_, fun st' K' hh hk => ⟨cs, b, (hh hk1).at' h1, h2, h3, hk⟩, h4⟩)
      | exact ⟨_, fun st' K' _ hk => hk, h⟩
      | exact ⟨_, fun st' K' _ hk c hc => by subst hc; exact hk, h _ rfl⟩
      | exact ⟨_, fun st' K' _ hk => ⟨h.1, hk⟩, h.2⟩
      | (obtain ⟨b, h1, h2⟩ := h; exact ⟨_, fun st' K' _ hk => ⟨b, h1, hk⟩, h2⟩)
  case slice t x lo hi mx =>
    cases mx with
    | some m => exact h.elim
    | none =>
      obtain ⟨v, h1, h2⟩ := vcSlice_det h
      exact ⟨v, fun st' K' _ hk => h1 _ hk, h2⟩
  case fieldAddr s x f =>
    revert h
    repeat' split
    all_goals intro h
    all_goals first | exact ⟨_, fun st' K' _ hk => hk, h⟩ | exact h.elim
  case field s x f =>
    revert h
    repeat' split
    all_goals intro h
    all_goals first | (obtain ⟨v, h3, h4⟩ := ldA_det h; exact ⟨v, fun st' K' hh hk => h3 _ hk, h4⟩) | exact h.elim
  case indexAddr t x ix =>
    revert h
    repeat' split
    all_goals intro h
    all_goals first | (obtain ⟨j, e, h1, h2, h3⟩ := h; exact ⟨_, fun st' K' _ hk => ⟨j, e, h1, h2, hk⟩, h3⟩) | (obtain ⟨j, h1, h2, h3⟩ := h; exact ⟨_, fun st' K' _ hk => ⟨j, h1, h2, hk⟩, h3⟩) | exact h.elim
  case index t x ix =>
    revert h
    repeat' split
    all_goals intro h
    all_goals first | (obtain ⟨j, e, h1, h2⟩ := h; exact ⟨_, fun st' K' _ hk => ⟨j, e, h1, hk⟩, h2⟩) | (obtain ⟨j, h1, h2, h3⟩ := h; obtain ⟨v, h4, h5⟩ := ldA_det h3; exact ⟨v, fun st' K' _ hk => ⟨j, h1, h2, h4 _ hk⟩, h5⟩) | exact h.elim
  case extract x i =>
    obtain ⟨v, h1, h2⟩ := vcExt_det h
    exact ⟨v, fun st' K' _ hk => h1 _ hk, h2⟩
  case call c =>
    have hc' := hcall c
    revert h
    split
    · repeat' split
      all_goals intro h
      all_goals first | exact h.elim | (obtain ⟨v, h1, h2⟩ := vcLenS_det h; exact ⟨v, fun st' K' _ hk => h1 _ hk, h2⟩) | (obtain ⟨v, h1, h2⟩ := vcLenL_det h; exact ⟨v, fun st' K' _ hk => h1 _ hk, h2⟩)
    · split
      all_goals intro h
      all_goals first | exact h.elim | (obtain ⟨v, h1, h2⟩ := minA_det h; exact ⟨v, fun st' K' _ hk => h1 _ hk, h2⟩)
    · split
      all_goals intro h
      all_goals first | exact h.elim | (obtain ⟨v, h1, h2⟩ := minA_det h; exact ⟨v, fun st' K' _ hk => h1 _ hk, h2⟩)
    · rename_i hb
      simp [cls, hb] at hc
    · repeat' split
      all_goals intro h
      all_goals first | exact h.elim | exact ⟨_, fun st' K' _ hk => hk, h⟩
    · rename_i hb
      simp [cls, hb] at hc
    · rename_i hb
      simp [cls, hb] at hc
    · rename_i f hb
      exact absurd hb (hc' f rfl)
    · exact fun h => h.elim

theorem vcOpE_det {x : Bool} {o : Op} (hc : cls x o ≤ 1) (hcall : ∀ c f, o = .call c → c.callee ≠ .value f) : Det (vcOpE P T) (cls x o) o := fun ρ st K h => by
  obtain ⟨h1, h2⟩ := vcOpE_iff.1 h
  obtain ⟨v, k1, k2⟩ := vcOp_det hc hcall ρ st K h2
  exact ⟨v, fun st' K' a b => vcOpE_iff.2 ⟨h1, k1 st' K' a b⟩, k2⟩
theorem vcOpX_det {o : Op} (hc : cls true o ≤ 1) : Det (vcOpX P T) (cls true o) o := by
  have hno : (∀ c f, o = .call c → c.callee ≠ .value f) → (∀ ρ st K, vcOpX P T o ρ st K = vcOp P T o ρ st K) → Det (vcOpX P T) (cls true o) o := fun h1 h2 ρ st K h => by
    rw [h2] at h
    obtain ⟨v, k1, k2⟩ := vcOp_det hc h1 ρ st K h
    exact ⟨v, fun st' K' a b => by rw [h2]; exact k1 st' K' a b, k2⟩
  cases o with
  | call c =>
    cases hcal : c.callee with
    | value f =>
      intro ρ st K h
      simp only [vcOpX, hcal] at h ⊢
      revert h
      repeat' split
      all_goals intro h
      all_goals first | exact h.elim | (rcases h with ⟨h0, h1, h2⟩ | ⟨h0, h3, h1, h2⟩; exact ⟨_, fun st' K' _ hk => .p h0 h1 hk, h2⟩; exact ⟨_, fun st' K' _ hk => .w h0 h3 h1 hk, h2⟩)
    | builtin b =>
      intro ρ st K h
      have e : ∀ st K, vcOpX P T (.call c) ρ st K = vcOpE P T (.call c) ρ st K := fun st K => by simp only [vcOpX, hcal]
      rw [e] at h
      obtain ⟨v, k1, k2⟩ := vcOpE_det hc (fun c' f e => by cases e; rw [hcal]; exact fun h => by cases h) ρ st K h
      exact ⟨v, fun st' K' a b => by rw [e]; exact k1 st' K' a b, k2⟩
    | invoke r m =>
      intro ρ st K h
      simp only [vcOpX, hcal] at h
  | _ => exact hno (fun c' f e => by cases e) (fun ρ st K => rfl)

def isHs : AV → Bool
  | .hs _ _ _ _ _ => true
  | _ => false
theorem vcApp_heap {i : TI} {s y : AV} {st : St} {K : AV → St → Prop} (hn : isHs s = false) : vcApp i s y st K → vcApp i s y st (fun v st' => Pre st st' ∧ K v st') := by
  intro h
  refine srcA_mono (fun ys h => ?_) h
  revert h
  split <;> (try split) <;> intro h <;> first
    | (cases hn; done)
    | exact ⟨fun e => ⟨.refl _, h.1 e⟩, fun e => ⟨(h.2 e).1, (h.2 e).2.1, .refl _, (h.2 e).2.2⟩⟩
    | exact ⟨fun e => ⟨.refl _, h.1 e⟩, fun e => ⟨(h.2 e).1, (h.2 e).2.1, ⟨[], by simp⟩, (h.2 e).2.2⟩⟩
    | exact ⟨fun e => ⟨.refl _, h.1 e⟩, fun e => ⟨(h.2 e).1, (h.2 e).2.1, (h.2 e).2.2.imp (fun g => ⟨⟨[], by simp⟩, g⟩) (fun g x hx => ⟨⟨_, rfl⟩, g x hx⟩)⟩⟩
    | exact ⟨fun e => ⟨.refl _, h.1 e⟩, fun e => ⟨(h.2 e).1, (h.2 e).2.1, (h.2 e).2.2.imp (fun g => ⟨⟨[], by simp⟩, g⟩) (fun g => ⟨g.1, fun x hx => ⟨⟨_, rfl⟩, g.2 x hx⟩⟩)⟩⟩
    | exact ⟨h.1, h.2.1, h.2.2.1, ⟨[], by simp⟩, h.2.2.2⟩
    | exact h.elim
theorem vcOpE_app {o : Op} (ho : isApp o = true) (ρ : Operand → AV) (st : St) (K : AV → St → Prop) (h : vcOpE P T o ρ st K) : vcOpE P T o ρ st (fun v st' => Pre st st' ∧ K v st') := by
  rcases vcOpE_iff.1 h with ⟨h1, h2⟩
  clear h
  refine vcOpE_iff.2 ⟨h1, ?_⟩
  rename vcOp _ _ _ _ _ _ => h
  cases o
  case call c =>
    cases hcal : c.callee with
    | builtin b =>
      cases b with
      | append =>
        simp only [okE, hcal] at h1
        revert h
        simp only [vcOp, hcal]
        cases hl : c.args.toList with
        | nil => exact id
        | cons s r =>
          rw [hl] at h1
          have hns : isHs (ρ s) = false := by
            cases hr : ρ s with
            | hs p lo n cap sz => simp only [hr] at h1
            | _ => rfl
          cases r with
          | nil => exact id
          | cons y r =>
            cases r with
            | nil =>
              simp only
              repeat' split
              all_goals first | exact id | exact vcApp_heap hns
            | cons z r => exact id
      | _ => simp [isApp, hcal] at ho
    | _ => simp [isApp, hcal] at ho
  all_goals simp [isApp] at ho
theorem vcOpX_app {o : Op} (ho : isApp o = true) (ρ : Operand → AV) (st : St) (K : AV → St → Prop) (h : vcOpX P T o ρ st K) : vcOpX P T o ρ st (fun v st' => Pre st st' ∧ K v st') := by
  cases o
  case call c =>
    cases hcal : c.callee with
    | builtin b =>
      have e : ∀ K, vcOpX P T (.call c) ρ st K = vcOpE P T (.call c) ρ st K := fun K => by simp only [vcOpX, hcal]
      rw [e] at h ⊢
      exact vcOpE_app ho ρ st K h
    | _ => simp [isApp, hcal] at ho
  all_goals simp [isApp] at ho

theorem vcOpN_congr {o : Op} {ρ ρ' : Operand → AV} (h : ∀ x ∈ o.operands, ρ x = ρ' x) (st : St) (K : AV → St → Prop) : vcOpN P T o ρ st K = vcOpN P T o ρ' st K := by
  cases o with
  | call c =>
    have ha : c.args.toList.map ρ = c.args.toList.map ρ' := List.map_congr_left fun x hx => h x (by simp [Op.operands, Call.operands, Array.mem_toList_iff.1 hx])
    simp only [vcOpN]
    cases hc : c.callee with
    | value f =>
      simp only
      rw [ha, h f (by simp [Op.operands, Call.operands, hc])]
    | invoke r m => rfl
    | builtin b => exact vcOpE_congr (P := P) (T := T) h st K
  | _ => exact vcOp_congr (P := P) (T := T) h st K
theorem vcOpN_det {o : Op} (hc : cls false o ≤ 1) : Det (vcOpN P T) (cls false o) o := by
  have hno : (∀ c f, o = .call c → c.callee ≠ .value f) → (∀ ρ st K, vcOpN P T o ρ st K = vcOp P T o ρ st K) → Det (vcOpN P T) (cls false o) o := fun h1 h2 ρ st K h => by
    rw [h2] at h
    obtain ⟨v, k1, k2⟩ := vcOp_det hc h1 ρ st K h
    exact ⟨v, fun st' K' a b => by rw [h2]; exact k1 st' K' a b, k2⟩
  cases o with
  | call c =>
    cases hcal : c.callee with
    | value f => simp [cls, hcal] at hc
    | builtin b =>
      intro ρ st K h
      have e : ∀ st K, vcOpN P T (.call c) ρ st K = vcOpE P T (.call c) ρ st K := fun st K => by simp only [vcOpN, hcal]
      rw [e] at h
      obtain ⟨v, k1, k2⟩ := vcOpE_det hc (fun c' f e => by cases e; rw [hcal]; exact fun h => by cases h) ρ st K h
      exact ⟨v, fun st' K' a b => by rw [e]; exact k1 st' K' a b, k2⟩
    | invoke r m =>
      intro ρ st K h
      simp only [vcOpN, hcal] at h
  | _ => exact hno (fun c' f e => by cases e) (fun ρ st K => rfl)
theorem vcOpN_new {o : Op} (ho : isNew o = true) (ρ : Operand → AV) (st : St) (K : AV → St → Prop) (h : vcOpN P T o ρ st K) : vcOpN P T o ρ st (fun v st' => Pre st st' ∧ K v st') := by
  cases o
  case call c =>
    cases hcal : c.callee with
    | builtin b =>
      have e : ∀ K, vcOpN P T (.call c) ρ st K = vcOpE P T (.call c) ρ st K := fun K => by simp only [vcOpN, hcal]
      rw [e] at h ⊢
      exact vcOpE_app (by cases b <;> simp [isNew, isApp, hcal] at ho ⊢) ρ st K h
    | value f =>
      revert h
      simp only [vcOpN, hcal]
      have key : ∀ (k : FuncId) (args : List AV), callN P k args st K → callN P k args st (fun v st' => Pre st st' ∧ K v st') := by
        rintro k args (⟨h0, h1, h2⟩ | ⟨h0, h3, h1, h2⟩ | ⟨h1, h2⟩)
        · exact .p h0 h1 ⟨.refl _, h2⟩
        · exact .w h0 h3 h1 ⟨.refl _, h2⟩
        · refine .s ⟨h1, fun base J w0 μ σ w vs a b c => (h2 base J w0 μ σ w vs a b c).mono ?_⟩
          rintro e w' ⟨v, r, st', μ', σ', q1, q2, q3⟩
          exact ⟨v, r, st', μ', σ', q1, ⟨q2.1, q2⟩, q3⟩
      repeat' split
      all_goals first | exact key _ _ | exact fun h => h
    | invoke r m => simp [isNew, hcal] at ho
  case alloc t =>
    revert h
    simp only [vcOpN, vcOp, listK_iff]
    repeat' split
    all_goals intro h
    all_goals first | exact ⟨⟨_, rfl⟩, h⟩ | exact h
  case box t x =>
    revert h
    simp only [vcOpN, vcOp, listK_iff]
    repeat' split
    all_goals intro h
    all_goals first | (rw [olderA_iff] at h ⊢; exact ⟨h.1, ⟨_, rfl⟩, h.2⟩) | exact h
  all_goals simp [isNew] at ho

/-- an operation in a region, by whatever says what operations ask -/
def operG (V : Op → (Operand → AV) → St → (AV → St → Prop) → Prop) (ops : Array Oper) (o : Oper) (fr : Fr) (st : St) (K : Fr → St → Prop) : Prop :=
  guard0 ops o.guard fr (V o.op fr.ev st fun v st' => K (fr.put o.dst v) st') (K (fr.put o.dst .un) st)
def opsG (V : Op → (Operand → AV) → St → (AV → St → Prop) → Prop) (ops : Array Oper) : List Oper → Fr → St → (Fr → St → Prop) → Prop
  | [], fr, st, K => K fr st
  | o :: r, fr, st, K => operG V ops o fr st fun fr' st' => opsG V ops r fr' st' K
theorem operG_iff {ops : Array Oper} {o : Oper} {fr : Fr} {st : St} {K : Fr → St → Prop} : vcOper P T ops o fr st K ↔ operG (vcOp P T) ops o fr st K := vcOper_iff
theorem operGX_iff {ops : Array Oper} {o : Oper} {fr : Fr} {st : St} {K : Fr → St → Prop} : vcOperX P T ops o fr st K ↔ operG (vcOpX P T) ops o fr st K := vcOperX_iff

/-- what is asked of it -/
structure Good (x : Bool) (V : Op → (Operand → AV) → St → (AV → St → Prop) → Prop) : Prop where
  mono : ∀ {o : Op} {ρ : Operand → AV} {st : St} {K K' : AV → St → Prop}, (∀ v st, K v st → K' v st) → V o ρ st K → V o ρ st K'
  congr : ∀ {o : Op} {ρ ρ' : Operand → AV} (_ : ∀ y ∈ o.operands, ρ y = ρ' y) (st : St) (K : AV → St → Prop), V o ρ st K = V o ρ' st K
  det : ∀ {o : Op}, cls x o ≤ 1 → Det V (cls x o) o
  app : ∀ {o : Op}, isApp o = true → ∀ (ρ : Operand → AV) (st : St) (K : AV → St → Prop), V o ρ st K → V o ρ st (fun v st' => Pre st st' ∧ K v st')

section
variable {x : Bool} {V : Op → (Operand → AV) → St → (AV → St → Prop) → Prop} (hV : Good x V) {ops : Array Oper}

/-- what is asked of it at least -/
structure Good0 (V : Op → (Operand → AV) → St → (AV → St → Prop) → Prop) : Prop where
  mono : ∀ {o : Op} {ρ : Operand → AV} {st : St} {K K' : AV → St → Prop}, (∀ v st, K v st → K' v st) → V o ρ st K → V o ρ st K'
  congr : ∀ {o : Op} {ρ ρ' : Operand → AV} (_ : ∀ y ∈ o.operands, ρ y = ρ' y) (st : St) (K : AV → St → Prop), V o ρ st K = V o ρ' st K
theorem Good.zero (hV : Good x V) : Good0 V := ⟨hV.mono, hV.congr⟩
theorem operG_mono (hV : Good0 V) {o : Oper} {fr : Fr} {st : St} {K K' : Fr → St → Prop} (hk : ∀ v st', K (fr.put o.dst v) st' → K' (fr.put o.dst v) st') (h : operG V ops o fr st K) : operG V ops o fr st K' :=
  guard0_mono (hV.mono fun v st' h => hk v st' h) (fun h => hk _ _ h) h

theorem ev_put {fr : Fr} {d : Option Tmp} {v : AV} {y : Operand} (h : ∀ t, d = some t → y ≠ .tmp t) : (fr.put d v).ev y = fr.ev y := by
  cases d with
  | none => rfl
  | some t =>
    cases y with
    | tmp t' =>
      have hne : t ≠ t' := fun e => h t rfl (by rw [e])
      show (fr.set t v).getD t' .un = fr.getD t' .un
      rw [List.getD_eq_getElem?_getD, List.getD_eq_getElem?_getD, List.getElem?_set_ne hne]
    | _ => rfl
theorem put_comm {fr : Fr} {d e : Option Tmp} (v u : AV) (h : ∀ t, d = some t → e ≠ some t) : (fr.put d v).put e u = (fr.put e u).put d v := by
  cases d with
  | none => rfl
  | some t =>
    cases e with
    | none => rfl
    | some t' =>
      have hne : t ≠ t' := fun he => h t rfl (by rw [he])
      exact List.set_comm _ _ hne

/-- a slot that it does not look at -/
theorem operG_put (hV : Good0 V) {o : Oper} {fr : Fr} {st : St} {K : Fr → St → Prop} {d : Option Tmp} {v : AV} (h1 : ∀ t, d = some t → t ∉ o.looksAt ops) (h2 : ∀ t, d = some t → o.dst ≠ some t) :
    operG V ops o (fr.put d v) st K ↔ operG V ops o fr st (fun fr' st' => K (fr'.put d v) st') := by
  have hev : ∀ y ∈ o.op.operands, (fr.put d v).ev y = fr.ev y := fun y hy => ev_put fun t ht e => h1 t ht (List.mem_append_left _ (List.mem_filterMap.2 ⟨.tmp t, by subst e; simpa using hy, rfl⟩))
  have hg : ∀ (A B : Prop), guard0 ops o.guard (fr.put d v) A B = guard0 ops o.guard fr A B := fun A B => by
    unfold guard0
    cases hgd : o.guard with
    | none => rfl
    | some jw =>
      obtain ⟨j, want⟩ := jw
      cases hd : (ops[j]?).bind (·.dst) with
      | none => simp only [hd]
      | some e =>
        simp only [hd]
        have he : (fr.put d v)[e]? = fr[e]? := by
          cases d with
          | none => rfl
          | some t =>
            have hne : t ≠ e := fun ee => h1 t rfl (List.mem_append_right _ (by simp [hgd, hd, ee]))
            exact List.getElem?_set_ne hne
        rw [he]
  unfold operG
  rw [hg, hV.congr hev]
  have e1 : (fun u st' => K ((fr.put d v).put o.dst u) st') = fun u st' => K ((fr.put o.dst u).put d v) st' := by
    funext u st'
    rw [put_comm v u (fun t ht => h2 t ht)]
  rw [e1, put_comm v .un (fun t ht => h2 t ht)]

/-- it has the value v, in every state of the class -/
def Yld (V : Op → (Operand → AV) → St → (AV → St → Prop) → Prop) (ops : Array Oper) (o : Oper) (fr : Fr) (v : AV) (C : St → Prop) : Prop :=
  ∀ (st : St) (K : Fr → St → Prop), C st → K (fr.put o.dst v) st → operG V ops o fr st K
theorem Yld.put (hV : Good0 V) {o : Oper} {fr : Fr} {v u : AV} {C : St → Prop} {d : Option Tmp} (h : Yld V ops o fr v C) (h1 : ∀ t, d = some t → t ∉ o.looksAt ops) (h2 : ∀ t, d = some t → o.dst ≠ some t) : Yld V ops o (fr.put d u) v C := by
  intro st K hc hk
  rw [operG_put hV h1 h2]
  exact h st _ hc (by rw [put_comm _ _ (fun t ht e => h2 t e ht)]; exact hk)

theorem guard0_key {ops : Array Oper} {fr : Fr} (g : Option (Nat × Bool)) {A B : Prop} (h : guard0 ops g fr A B) : (A ∧ ∀ A' B' : Prop, A' → guard0 ops g fr A' B') ∨ (B ∧ ∀ A' B' : Prop, B' → guard0 ops g fr A' B') := by
  cases g with
  | none => exact .inl ⟨h, fun _ _ h => h⟩
  | some jw =>
    obtain ⟨j, want⟩ := jw
    cases hd : (ops[j]?).bind (·.dst) with
    | none => simp only [guard0, hd] at h
    | some d =>
      cases hf : fr[d]? with
      | none => simp only [guard0, hd, hf] at h
      | some a =>
        cases a with
        | lit v =>
          cases v with
          | bool b =>
            cases b <;> cases want <;> simp only [guard0, hd, hf, cnd] at h ⊢ <;> first | exact .inl ⟨h, fun _ _ h => h⟩ | exact .inr ⟨h, fun _ _ h => h⟩
          | tuple vs =>
            simp only [guard0, hd, hf] at h ⊢
            exact .inr ⟨h, fun _ _ h => h⟩
          | _ => simp only [guard0, hd, hf] at h
        | _ => simp only [guard0, hd, hf] at h

theorem operG_det (hV : Good x V) {o : Oper} (hc : cls x o.op ≤ 1) {fr : Fr} {st : St} {K : Fr → St → Prop} (h : operG V ops o fr st K) : ∃ v, Yld V ops o fr v (fun st' => cls x o.op = 1 → Pre st st') ∧ K (fr.put o.dst v) st := by
  unfold operG at h
  rcases guard0_key _ h with ⟨hA, hg⟩ | ⟨hB, hg⟩
  · obtain ⟨v, h1, h2⟩ := hV.det hc _ _ _ hA
    exact ⟨v, fun st' K' hC hk => hg _ _ (h1 st' _ hC hk), h2⟩
  · exact ⟨.un, fun st' K' _ hk => hg _ _ hk, hB⟩

/-- whatever order is picked -/
def anyG (V : Nat → Op → (Operand → AV) → St → (AV → St → Prop) → Prop) (ops : Array Oper) (K : Fr → St → Prop) : Nat → Array Bool → Fr → St → Prop
  | 0, listed, fr, st => Region.ready .any ops listed = [] ∧ K fr st
  | n + 1, listed, fr, st => (Region.ready .any ops listed = [] → K fr st) ∧ ∀ j ∈ Region.ready .any ops listed, ∃ o, ops[j]? = some o ∧ operG (V j) ops o fr st fun fr' st' => anyG V ops K n (listed.setIfInBounds j true) fr' st'

theorem anyG_first {V : Nat → Op → (Operand → AV) → St → (AV → St → Prop) → Prop} (hV : ∀ j, Good0 (V j)) {K : Fr → St → Prop} {i : Nat} {oi : Oper} {v : AV} {C : St → Prop} (hi : ops[i]? = some oi) (D : Nat → Bool)
    (hD : ∀ j oj, ops[j]? = some oj → D j = true → ∃ e ∈ oj.after, Region.binds .any e = true ∧ (e.on = i ∨ D e.on = true)) : ∀ (n : Nat) (listed : Array Bool) (fr : Fr) (st : St), C st → (∀ j, D j = true → listed.getD j true = false) →
    (∀ j oj, ops[j]? = some oj → j ≠ i → listed.getD j true = false → (∀ e ∈ oj.after, Region.binds .any e = true → e.on ≠ i ∧ D e.on = false) → oi.apart ops oj = true ∧ ∀ (fr : Fr) (st : St) (K : Fr → St → Prop), C st → operG (V j) ops oj fr st K → operG (V j) ops oj fr st (fun fr' st' => C st' ∧ K fr' st')) →
    i ∈ Region.ready .any ops listed → Yld (V i) ops oi fr v C → anyG V ops K n (listed.setIfInBounds i true) (fr.put oi.dst v) st → anyG V ops K (n + 1) listed fr st := by
  intro n
  induction n with
  | zero =>
    intro listed fr st hC hDl hfree hr hy H
    refine ⟨(fun h => by rw [h] at hr; cases hr), fun j hj => ?_⟩
    by_cases hji : j = i
    · subst hji; exact ⟨oi, hi, hy _ _ hC H⟩
    · have := ready_mono (i := i) hj hji
      rw [H.1] at this
      cases this
  | succ n ih =>
    intro listed fr st hC hDl hfree hr hy H
    refine ⟨(fun h => by rw [h] at hr; cases hr), fun j hj => ?_⟩
    by_cases hji : j = i
    · subst hji; exact ⟨oi, hi, hy _ _ hC H⟩
    · obtain ⟨oj, hoj, h1⟩ := H.2 j (ready_mono hj hji)
      obtain ⟨hjun, oj', hoj', hall⟩ := mem_ready.1 hj
      rw [hoj] at hoj'
      cases hoj'
      have clash : ∀ m : Nat, listed.getD m true = false → ∀ e ∈ oj.after, Region.binds .any e = true → e.on = m → False := fun m h0 e he hb heq => by
        have h1 := hall e he hb
        rw [heq] at h1
        rcases Nat.lt_or_ge m listed.size with h' | h'
        · simp [h'] at h0 h1; rw [h0] at h1; cases h1
        · simp [Array.getElem?_eq_none h'] at h1
      have hnot : ∀ e ∈ oj.after, Region.binds .any e = true → e.on ≠ i ∧ D e.on = false := fun e he hb => by
        refine ⟨fun heq => clash i (mem_ready.1 hr).1 e he hb heq, ?_⟩
        cases hd : D e.on with
        | false => rfl
        | true => exact (clash e.on (hDl _ hd) e he hb rfl).elim
      have hDj : D j = false := by
        cases hd : D j with
        | false => rfl
        | true =>
          obtain ⟨e, he, hb, hor⟩ := hD j oj hoj hd
          rcases hor with hor | hor
          · exact absurd hor (hnot e he hb).1
          · rw [(hnot e he hb).2] at hor; cases hor
      obtain ⟨hap, hpres⟩ := hfree j oj hoj hji hjun hnot
      obtain ⟨a1, a2, a3⟩ := Oper.apart_spec hap
      rw [operG_put (hV j) a1 a2] at h1
      refine ⟨oj, hoj, operG_mono (hV j) (fun u st' h3 => ?_) (hpres fr st _ hC h1)⟩
      have hfree' : ∀ k ok, ops[k]? = some ok → k ≠ i → (listed.setIfInBounds j true).getD k true = false → (∀ e ∈ ok.after, Region.binds .any e = true → e.on ≠ i ∧ D e.on = false) → oi.apart ops ok = true ∧ ∀ (fr : Fr) (st : St) (K : Fr → St → Prop), C st → operG (V k) ops ok fr st K → operG (V k) ops ok fr st (fun fr' st' => C st' ∧ K fr' st') := fun k ok hk hki hun hno => by
        refine hfree k ok hk hki ?_ hno
        by_cases hjk : j = k
        · subst hjk; exact hjun
        · rw [getD_set_ne true hjk] at hun; exact hun
      refine ih (listed.setIfInBounds j true) _ st' h3.1 (fun k hk => ?_) hfree' (ready_mono hr (Ne.symm hji)) (hy.put (hV i) a3 (fun t ht e => a2 t e ht)) ?_
      · have hjk : j ≠ k := fun e => by subst e; rw [hDj] at hk; cases hk
        rw [getD_set_ne true hjk]
        exact hDl k hk
      rw [Array.setIfInBounds_comm _ _ hji]
      exact h3.2

theorem anyG_lex (hV : Good x V) {K : Fr → St → Prop} : ∀ (l : List Oper) (k : Nat) (listed : Array Bool) (fr : Fr) (st : St), (∀ j : Nat, l[j]? = ops[k + j]?) → lexA x ops l.length k listed = true → opsG V ops l fr st K → anyG (fun _ => V) ops K l.length listed fr st
  | [], _, _, _, _, _, hB, h => ⟨by simpa [lexA] using hB, h⟩
  | o :: l, k, listed, fr, st, hl, hB, h => by
    have h0 : ops[k]? = some o := by simpa using (hl 0).symm
    simp only [List.length_cons, lexA, Bool.and_eq_true] at hB
    obtain ⟨⟨hr, hf⟩, hB'⟩ := hB
    have hr' : k ∈ Region.ready .any ops listed := by simpa using hr
    have hf' : ∀ j oj, ops[j]? = some oj → j ≠ k → listed.getD j true = false → (∀ e ∈ oj.after, Region.binds .any e = true → e.on ≠ k) → o.apart ops oj = true ∧ comm x o.op oj.op = true := by
      intro j oj hoj hne hun hno
      simp only [freeA, h0, List.all_eq_true, List.mem_range] at hf
      have h1 := hf j (Array.getElem?_eq_some_iff.1 hoj).1
      simp only [hoj, Bool.or_eq_true, beq_iff_eq, hne, false_or, hun, Bool.false_eq_true] at h1
      rcases h1 with h1 | h1
      · obtain ⟨e, he, hb⟩ := Array.any_eq_true'.1 h1
        simp only [Bool.and_eq_true, beq_iff_eq] at hb
        exact absurd hb.2 (hno e he hb.1)
      · simpa using h1
    have ih : ∀ fr' st', opsG V ops l fr' st' K → anyG (fun _ => V) ops K l.length (listed.setIfInBounds k true) fr' st' := fun fr' st' h' =>
      anyG_lex hV l (k + 1) _ fr' st' (fun j => by have := hl (j + 1); simpa [Nat.add_assoc, Nat.add_comm 1 j] using this) hB' h'
    by_cases hc : cls x o.op ≤ 1
    · obtain ⟨v, hy, hk⟩ := operG_det hV hc h
      refine anyG_first (V := fun _ => V) (fun _ => hV.zero) h0 (fun _ => false) (fun _ _ _ h => by cases h) l.length listed fr st (C := fun st' => cls x o.op = 1 → Pre st st') (fun _ => .refl _) (fun _ h => by cases h) (fun j oj hoj hne hun hno => ?_) hr' hy (ih _ _ hk)
      obtain ⟨q1, q2⟩ := hf' j oj hoj hne hun fun e he hb => (hno e he hb).1
      refine ⟨q1, fun fr2 st2 K2 hC2 h2 => ?_⟩
      by_cases h1 : cls x o.op = 1
      · have hcj : cls x oj.op ≤ 1 ∨ isApp oj.op = true := by
          unfold comm at q2
          rw [h1] at q2
          simpa using q2
        rcases hcj with hcj | hcj
        case inr => exact guard0_mono (fun h => hV.mono (fun v st' h => ⟨fun e => (hC2 e).trans h.1, h.2⟩) (hV.app hcj _ _ _ h)) (fun h => ⟨hC2, h⟩) h2
        obtain ⟨u, hyj, hkj⟩ := operG_det hV hcj h2
        exact hyj _ _ (fun _ => .refl _) ⟨hC2, hkj⟩
      · exact operG_mono hV.zero (fun u st3 h3 => ⟨fun e => absurd e h1, h3⟩) h2
    · have honly : ∀ j, j ∈ Region.ready .any ops listed → j = k := fun j hj => by
        apply Decidable.byContradiction
        intro hne
        obtain ⟨hjun, oj, hoj, hall⟩ := mem_ready.1 hj
        have hno : ∀ e ∈ oj.after, Region.binds .any e = true → e.on ≠ k := fun e he hb heq => by
          have h1 := hall e he hb
          have h2 := (mem_ready.1 hr').1
          rw [heq] at h1
          rcases Nat.lt_or_ge k listed.size with h' | h'
          · simp [h'] at h1 h2; rw [h2] at h1; cases h1
          · simp [Array.getElem?_eq_none h'] at h1
        have q2 := (hf' j oj hoj hne hjun hno).2
        unfold comm at q2
        split at q2
        · omega
        · omega
        · cases q2
      refine ⟨(fun h => by rw [h] at hr'; cases hr'), fun j hj => ?_⟩
      have := honly j hj
      subst this
      exact ⟨o, h0, operG_mono hV.zero (fun v st' h' => ih _ _ h') h⟩
end

theorem goodN : Good false (vcOpN P T) := ⟨fun hk h => vcOpN_mono hk h, fun h st K => vcOpN_congr h st K, fun hc => vcOpN_det hc, fun {o} ho ρ st K h => vcOpN_new (by
  cases o with
  | call c =>
    cases hcal : c.callee with
    | builtin b => cases b <;> simp [isNew, isApp, hcal] at ho ⊢
    | value f => simp [isApp, hcal] at ho
    | invoke r m => simp [isApp, hcal] at ho
  | _ => simp [isApp] at ho) ρ st K h⟩
/-- what a plan asks of an operation, by whatever says it -/
theorem operGN_iff {ops : Array Oper} {o : Oper} {fr : Fr} {st : St} {K : Fr → St → Prop} : vcOperN P T ops o fr st K ↔ operG (vcOpN P T) ops o fr st K := vcOperN_iff
theorem operG_iffP {ops : Array Oper} {o : Oper} {fr : Fr} {st : St} {K : Fr → St → Prop} : vcOper P T ops o fr st K ↔ operG (vcOp P T) ops o fr st K := vcOper_iff
theorem anyG_only {V : Nat → Op → (Operand → AV) → St → (AV → St → Prop) → Prop} {ops : Array Oper} {K : Fr → St → Prop} {k : Nat} {o : Oper} {n : Nat} {listed : Array Bool} {fr : Fr} {st : St} (h0 : ops[k]? = some o) (hr : Region.ready .any ops listed = [k])
    (h : operG (V k) ops o fr st fun fr' st' => anyG V ops K n (listed.setIfInBounds k true) fr' st') : anyG V ops K (n + 1) listed fr st := by
  refine ⟨(fun h => by rw [h] at hr; cases hr), fun j hj => ?_⟩
  rw [hr] at hj
  have := List.mem_singleton.1 hj
  subst this
  exact ⟨o, h0, h⟩
theorem callN_le {f : FuncId} {args : List AV} {st : St} {K : AV → St → Prop} (h : callN P f args st K) : VCall P f args st K := by
  rcases h with ⟨h0, h1, h2⟩ | ⟨h0, h3, h1, h2⟩ | ⟨h1, h2⟩
  · exact .p h0 h1 h2
  · exact .w h0 h3 h1 h2
  · refine .s ⟨h1, fun base J w0 μ σ w vs a b c => (h2 base J w0 μ σ w vs a b c).mono ?_⟩
    rintro e w' ⟨v, r, st', μ', σ', q1, q2, q3⟩
    exact ⟨v, r, st', μ', σ', q1, q2.2, q3⟩
theorem vcOpN_le {o : Op} {ρ : Operand → AV} {st : St} {K : AV → St → Prop} (h : vcOpN P T o ρ st K) : vcOp P T o ρ st K := by
  cases o with
  | call c =>
    cases hc : c.callee with
    | value f =>
      simp only [vcOpN, vcOp, hc] at h ⊢
      revert h
      repeat' split
      all_goals intro h
      all_goals first | exact callN_le h | exact h
    | builtin b => exact (vcOpE_iff.1 (by simpa only [vcOpN, hc] using h)).2
    | invoke r m => simp only [vcOpN, hc] at h
  | _ => exact h

/-- what is asked of the operation at a place -/
def vcW (W : List Nat) (j : Nat) : Op → (Operand → AV) → St → (AV → St → Prop) → Prop := match isIn j W with | true => vcOp P T | false => vcOpN P T
theorem vcW_of {W : List Nat} {j : Nat} {Q : (Op → (Operand → AV) → St → (AV → St → Prop) → Prop) → Prop} (h1 : isIn j W = true → Q (vcOp P T)) (h2 : isIn j W = false → Q (vcOpN P T)) : Q (vcW (P := P) (T := T) W j) := by
  unfold vcW
  cases h : isIn j W with
  | true => exact h1 h
  | false => exact h2 h
theorem vcW_good (W : List Nat) (j : Nat) : Good0 (vcW (P := P) (T := T) W j) :=
  vcW_of (Q := Good0) (fun _ => ⟨fun hk h => vcOp_mono hk h, fun h st K => vcOp_congr h st K⟩) (fun _ => goodN.zero)
theorem vcW_det (W : List Nat) (j : Nat) {o : Op} (hc : cls false o ≤ 1) : Det (vcW (P := P) (T := T) W j) (cls false o) o :=
  vcW_of (Q := fun V => Det V (cls false o) o) (fun _ => vcOp_det hc fun c f e hf => by subst e; simp [cls, hf] at hc) (fun _ => vcOpN_det hc)
theorem vcW_new (W : List Nat) (j : Nat) (hj : isIn j W = false) {o : Op} (ho : isNew o = true) (ρ : Operand → AV) (st : St) (K : AV → St → Prop) (h : vcW (P := P) (T := T) W j o ρ st K) : vcW (P := P) (T := T) W j o ρ st (fun v st' => Pre st st' ∧ K v st') := by
  unfold vcW at h ⊢
  rw [hj] at h ⊢
  exact vcOpN_new ho ρ st K h
theorem operG_det0 {V : Op → (Operand → AV) → St → (AV → St → Prop) → Prop} {x : Bool} {ops : Array Oper} {o : Oper} (hd : Det V (cls x o.op) o.op) {fr : Fr} {st : St} {K : Fr → St → Prop} (h : operG V ops o fr st K) : ∃ v, Yld V ops o fr v (fun st' => cls x o.op = 1 → Pre st st') ∧ K (fr.put o.dst v) st := by
  unfold operG at h
  rcases guard0_key _ h with ⟨hA, hg⟩ | ⟨hB, hg⟩
  · obtain ⟨v, h1, h2⟩ := hd _ _ _ hA
    exact ⟨v, fun st' K' hC hk => hg _ _ (h1 st' _ hC hk), h2⟩
  · exact ⟨.un, fun st' K' _ hk => hg _ _ hk, hB⟩
theorem vcW_le {W : List Nat} {j : Nat} {o : Op} {ρ : Operand → AV} {st : St} {K : AV → St → Prop} (h : vcW (P := P) (T := T) W j o ρ st K) : vcOp P T o ρ st K := by
  unfold vcW at h
  cases hj : isIn j W with
  | true => rw [hj] at h; exact h
  | false => rw [hj] at h; exact vcOpN_le h
theorem vcOpN_W (W : List Nat) (j : Nat) {o : Op} {ρ : Operand → AV} {st : St} {K : AV → St → Prop} (h : vcOpN P T o ρ st K) : vcW (P := P) (T := T) W j o ρ st K :=
  vcW_of (Q := fun V => V o ρ st K) (fun _ => vcOpN_le h) (fun _ => h)
theorem operN_W (W : List Nat) (j : Nat) {ops : Array Oper} {o : Oper} {fr : Fr} {st : St} {K : Fr → St → Prop} (h : operG (vcOpN P T) ops o fr st K) : operG (vcW (P := P) (T := T) W j) ops o fr st K := guard0_mono (fun h => vcOpN_W W j h) (fun h => h) h
theorem anyG_plan {ops : Array Oper} {K : Fr → St → Prop} (W : List Nat) : ∀ (n : Nat) (p : Plan) (listed : Array Bool) (fr : Fr) (st : St), okPlan W ops n p listed = true → vcPlan P T ops K p fr st → anyG (vcW (P := P) (T := T) W) ops K n listed fr st := by
  have hV := vcW_good (P := P) (T := T) W
  intro n
  induction n with
  | zero =>
    intro p listed fr st hB h
    cases p with
    | done => exact ⟨by simpa [okPlan] using hB, h⟩
    | _ => simp [okPlan] at hB
  | succ n ih =>
    intro p listed fr st hB h
    cases p with
    | done => simp [okPlan] at hB
    | only k p =>
      simp only [okPlan, Bool.and_eq_true] at hB
      obtain ⟨⟨hk, hr⟩, hB'⟩ := hB
      unfold vcPlan at h
      split at h
      case h_2 => exact h.elim
      rename_i o h0
      have he : Region.ready .any ops listed = [k] := by simpa using hr
      refine anyG_only h0 he (operG_mono (hV k) (fun v st' h' => ih p _ _ _ hB' h') ?_)
      have h := operG_iffP.1 h
      unfold vcW
      rw [hk]
      exact h
    | one k p =>
      simp only [okPlan, Bool.and_eq_true, Bool.or_eq_true] at hB
      obtain ⟨⟨hr, hf⟩, hB'⟩ := hB
      have hr' : k ∈ Region.ready .any ops listed := by simpa using hr
      unfold vcPlan at h
      split at h
      case h_2 => exact h.elim
      rename_i o h0
      have h := operN_W W k (operGN_iff.1 h)
      rcases hf with hf | hf
      case inr =>
        have he : Region.ready .any ops listed = [k] := by simpa using hf
        exact anyG_only h0 he (operG_mono (hV k) (fun v st' h' => ih p _ _ _ hB' h') h)
      obtain ⟨D, hDe⟩ : ∃ D : Nat → Bool, D = fun j => (dset ops k).getD j false := ⟨_, rfl⟩
      have hDk : D k = false := by
        have := hf
        simp only [freeN, h0, Bool.and_eq_true] at this
        rw [hDe]
        simpa using this.1
      have hf0 : ∀ j, j < ops.size → (D j = true → listed.getD j true = false) ∧ (j = k ∨ listed.getD j true = true ∨ ∀ oj, ops[j]? = some oj → (∃ e ∈ oj.after, Region.binds .any e = true ∧ (e.on = k ∨ D e.on = true)) ∨ (D j = false ∧ o.apart ops oj = true ∧ commN (isIn j W) o.op oj.op = true)) := by
        intro j hj
        simp only [freeN, h0, Bool.and_eq_true, List.all_eq_true, List.mem_range] at hf
        obtain ⟨h1, h2⟩ := hf.2 j hj
        have hDj : D j = (dset ops k).getD j false := by rw [hDe]
        refine ⟨fun hd => ?_, ?_⟩
        · rw [hDj] at hd
          rw [hd] at h1
          simpa using h1
        · simp only [Bool.or_eq_true, beq_iff_eq] at h2
          rcases h2 with (h2 | h2) | h2
          · exact .inl h2
          · exact .inr (.inl h2)
          · refine .inr (.inr fun oj hoj => ?_)
            rw [hoj] at h2
            simp only [Bool.or_eq_true, Bool.and_eq_true] at h2
            rcases h2 with h2 | ⟨⟨h3, h4⟩, h5⟩
            · obtain ⟨e, he, hb⟩ := Array.any_eq_true'.1 h2
              simp only [Bool.and_eq_true, Bool.or_eq_true, beq_iff_eq] at hb
              exact .inl ⟨e, he, hb.1, hb.2.imp id (fun h => by rw [hDe]; exact h)⟩
            · refine .inr ⟨?_, h4, h5⟩
              rw [hDj]
              simpa using h3
      have dlen : ∀ j, D j = true → j < ops.size := fun j hj => by
        have hl : (dset ops k).length = ops.size := by
          unfold dset
          have : ∀ (f : List Bool → Nat → Bool) (l : List Nat) (D : List Bool), (l.foldl (fun D j => D ++ [f D j]) D).length = D.length + l.length := by
            intro f l
            induction l with
            | nil => intro D; rfl
            | cons a r ih => intro D; rw [List.foldl_cons, ih]; simp; omega
          exact (this (fun D j => match ops[j]? with | some oj => oj.after.any (fun e => Region.binds .any e && (e.on == k || D.getD e.on false)) | none => false) (List.range ops.size) []).trans (by simp)
        rw [hDe] at hj
        apply Decidable.byContradiction
        intro hc
        simp only [List.getD_eq_getElem?_getD] at hj
        rw [List.getElem?_eq_none (by omega)] at hj
        cases hj
      have hDl : ∀ j, D j = true → listed.getD j true = false := fun j hj => (hf0 j (dlen j hj)).1 hj
      have hkun := (mem_ready.1 hr').1
      have hDall : ∀ j oj, ops[j]? = some oj → D j = true → ∃ e ∈ oj.after, Region.binds .any e = true ∧ (e.on = k ∨ D e.on = true) := fun j oj hoj hd => by
        by_cases hjk : j = k
        · rw [hjk, hDk] at hd; cases hd
        · rcases (hf0 j (dlen j hd)).2 with h1 | h1 | h1
          · exact absurd h1 hjk
          · rw [hDl j hd] at h1; cases h1
          · rcases h1 oj hoj with h1 | h1
            · exact h1
            · rw [h1.1] at hd; cases hd
      have hf' : ∀ j oj, ops[j]? = some oj → j ≠ k → listed.getD j true = false → (∀ e ∈ oj.after, Region.binds .any e = true → e.on ≠ k ∧ D e.on = false) → o.apart ops oj = true ∧ commN (isIn j W) o.op oj.op = true := by
        intro j oj hoj hne hun hno
        rcases (hf0 j (Array.getElem?_eq_some_iff.1 hoj).1).2 with h1 | h1 | h1
        · exact absurd h1 hne
        · rw [hun] at h1; cases h1
        · rcases h1 oj hoj with ⟨e, he, hb, hor⟩ | h1
          · obtain ⟨n1, n2⟩ := hno e he hb
            rcases hor with hor | hor
            · exact absurd hor n1
            · rw [n2] at hor; cases hor
          · exact h1.2
      by_cases hc : cls false o.op ≤ 1
      · obtain ⟨v, hy, hk⟩ := operG_det0 (vcW_det W k hc) h
        refine anyG_first hV h0 D hDall n listed fr st (C := fun st' => cls false o.op = 1 → Pre st st') (fun _ => .refl _) hDl (fun j oj hoj hne hun hno => ?_) hr' hy (ih _ _ _ _ hB' hk)
        obtain ⟨q1, q2⟩ := hf' j oj hoj hne hun hno
        refine ⟨q1, fun fr2 st2 K2 hC2 h2 => ?_⟩
        by_cases h1 : cls false o.op = 1
        · have hcj : cls false oj.op ≤ 1 ∨ (isIn j W = false ∧ isNew oj.op = true) := by
            unfold commN at q2
            rw [h1] at q2
            simpa using q2
          rcases hcj with hcj | ⟨hjw, hcj⟩
          case inr => exact guard0_mono (fun h => (hV j).mono (fun v st' h => ⟨fun e => (hC2 e).trans h.1, h.2⟩) (vcW_new W j hjw hcj _ _ _ h)) (fun h => ⟨hC2, h⟩) h2
          obtain ⟨u, hyj, hkj⟩ := operG_det0 (vcW_det W j hcj) h2
          exact hyj _ _ (fun _ => .refl _) ⟨hC2, hkj⟩
        · exact operG_mono (hV j) (fun u st3 h3 => ⟨fun e => absurd e h1, h3⟩) h2
      · have honly : ∀ j, j ∈ Region.ready .any ops listed → j = k := fun j hj => by
          apply Decidable.byContradiction
          intro hne
          obtain ⟨hjun, oj, hoj, hall⟩ := mem_ready.1 hj
          have clash : ∀ m : Nat, listed.getD m true = false → ∀ e ∈ oj.after, Region.binds .any e = true → e.on = m → False := fun m h0 e he hb heq => by
            have h1 := hall e he hb
            rw [heq] at h1
            rcases Nat.lt_or_ge m listed.size with h' | h'
            · simp [h'] at h0 h1; rw [h0] at h1; cases h1
            · simp [Array.getElem?_eq_none h'] at h1
          have hno : ∀ e ∈ oj.after, Region.binds .any e = true → e.on ≠ k ∧ D e.on = false := fun e he hb => by
            refine ⟨fun heq => clash k hkun e he hb heq, ?_⟩
            cases hd : D e.on with
            | false => rfl
            | true => exact (clash e.on (hDl _ hd) e he hb rfl).elim
          have q2 := (hf' j oj hoj hne hjun hno).2
          unfold commN at q2
          split at q2
          · omega
          · omega
          · cases q2
        refine ⟨(fun h => by rw [h] at hr'; cases hr'), fun j hj => ?_⟩
        have := honly j hj
        subst this
        exact ⟨o, h0, operG_mono (hV _) (fun v st' h' => ih p _ _ _ hB' h') h⟩
    | two j k p q =>
      simp only [okPlan, Bool.and_eq_true] at hB
      obtain ⟨⟨hr, hB1⟩, hB2⟩ := hB
      have he : Region.ready .any ops listed = [j, k] := by simpa using hr
      unfold vcPlan at h
      obtain ⟨ha, hb⟩ := h
      refine ⟨(fun h => by rw [h] at he; cases he), fun i hi => ?_⟩
      rw [he] at hi
      rcases List.mem_cons.1 hi with rfl | hi
      · split at ha
        case h_2 => exact ha.elim
        rename_i o h0
        exact ⟨o, h0, operG_mono (hV _) (fun v st' h' => ih p _ _ _ hB1 h') (operN_W W _ (operGN_iff.1 ha))⟩
      · have := List.mem_singleton.1 hi
        subst this
        split at hb
        case h_2 => exact hb.elim
        rename_i o h0
        exact ⟨o, h0, operG_mono (hV _) (fun v st' h' => ih q _ _ _ hB2 h') (operN_W W _ (operGN_iff.1 hb))⟩
    | both j k p q =>
      simp only [okPlan, Bool.and_eq_true] at hB
      obtain ⟨⟨⟨⟨hwj, hwk⟩, hr⟩, hB1⟩, hB2⟩ := hB
      have he : Region.ready .any ops listed = [j, k] := by simpa using hr
      unfold vcPlan at h
      obtain ⟨ha, hb⟩ := h
      refine ⟨(fun h => by rw [h] at he; cases he), fun i hi => ?_⟩
      rw [he] at hi
      rcases List.mem_cons.1 hi with rfl | hi
      · split at ha
        case h_2 => exact ha.elim
        rename_i o h0
        refine ⟨o, h0, operG_mono (hV _) (fun v st' h' => ih p _ _ _ hB1 h') ?_⟩
        have ha := operG_iffP.1 ha
        unfold vcW
        rw [hwj]
        exact ha
      · have := List.mem_singleton.1 hi
        subst this
        split at hb
        case h_2 => exact hb.elim
        rename_i o h0
        refine ⟨o, h0, operG_mono (hV _) (fun v st' h' => ih q _ _ _ hB2 h') ?_⟩
        have hb := operG_iffP.1 hb
        unfold vcW
        rw [hwk]
        exact hb
theorem goodX : Good true (vcOpX P T) := ⟨fun hk h => vcOpX_mono hk h, fun h st K => vcOpX_congr h st K, fun hc => vcOpX_det hc, fun ho ρ st K h => vcOpX_app ho ρ st K h⟩

theorem vcAny_of {ops : Array Oper} {V : Nat → Op → (Operand → AV) → St → (AV → St → Prop) → Prop} (hle : ∀ {j : Nat} {o : Op} {ρ : Operand → AV} {st : St} {K : AV → St → Prop}, V j o ρ st K → vcOp P T o ρ st K) {K : Fr → St → Prop} : ∀ (n : Nat) (listed : Array Bool) (fr : Fr) (st : St), anyG V ops K n listed fr st → vcAny P T ops K n listed fr st
  | 0, listed, fr, st, h => by
    unfold vcAny
    rw [h.1]
    exact h.2
  | n + 1, listed, fr, st, h => by
    unfold vcAny
    split
    · rename_i he
      exact h.1 he
    · rename_i i is he
      intro j hj
      obtain ⟨o, ho, hv⟩ := h.2 j (by rw [he]; exact hj)
      refine ⟨o, ho, operG_iff.2 (guard0_mono (fun h => vcOp_mono (fun v st' h => vcAny_of hle n _ _ _ h) (hle h)) (fun h => vcAny_of hle n _ _ _ h) hv)⟩

theorem callP_le {f : FuncId} {args : List AV} {st : St} {K : AV → St → Prop} (h : callP P f args st K) : VCall P f args st K := by
  rcases h with ⟨h0, h1, h2⟩ | ⟨h0, h3, h1, h2⟩
  · exact .p h0 h1 h2
  · exact .w h0 h3 h1 h2
theorem vcOpX_le {o : Op} {ρ : Operand → AV} {st : St} {K : AV → St → Prop} (h : vcOpX P T o ρ st K) : vcOp P T o ρ st K := by
  cases o with
  | call c =>
    cases hc : c.callee with
    | value f =>
      simp only [vcOpX, vcOp, hc] at h ⊢
      revert h
      repeat' split
      all_goals intro h
      all_goals first | exact callP_le h | exact h
    | builtin b => exact (vcOpE_iff.1 (by simpa only [vcOpX, hc] using h)).2
    | invoke r m => simp only [vcOpX, hc] at h
  | _ => exact h

theorem opsGX_of {ops : Array Oper} {K : Fr → St → Prop} : ∀ (l : List Oper) (fr : Fr) (st : St), vcOpsX P T ops l fr st K → opsG (vcOpX P T) ops l fr st K
  | [], _, _, h => h
  | _ :: l, _, _, h => guard0_mono (fun h => vcOpX_mono (fun _ _ h => opsGX_of l _ _ h) h) (fun h => opsGX_of l _ _ h) (operGX_iff.1 h)

/-- **one walk serves** -/
theorem draw_any {ops : Array Oper} {K : Fr → St → Prop} {fr : Fr} {st : St} : VDraw P T ops K fr st → vcAny P T ops (fun fr' st' => ∃ fr0, Fr.le (dsts ops) fr' fr0 ∧ K fr0 st') ops.size (Array.replicate ops.size false) fr st
  | .e hd h => by
    have := anyG_lex goodX ops.toList 0 (Array.replicate ops.size false) fr st (by simp) (by rw [Array.length_toList]; exact hd) (opsGX_of _ _ _ h)
    rw [Array.length_toList] at this
    exact vcAny_mono _ _ (fun fr' st' h => ⟨fr', Fr.le_refl _ _, h⟩) (vcAny_of (fun h => vcOpX_le h) _ _ _ _ this)
  | .x hd h => by
    have := anyG_lex goodX ops.toList 0 (Array.replicate ops.size false) fr st (by simp) (by rw [Array.length_toList]; exact hd) (opsGX_of _ _ _ h)
    rw [Array.length_toList] at this
    exact vcAny_mono _ _ (fun fr' st' h => ⟨fr', Fr.le_refl _ _, h⟩) (vcAny_of (fun h => vcOpX_le h) _ _ _ _ this)
  | .any h => vcAny_mono _ _ (fun fr' st' h => ⟨fr', Fr.le_refl _ _, h⟩) h
  | .n p hp h => vcAny_mono _ _ (fun fr' st' h => ⟨fr', Fr.le_refl _ _, h⟩) (vcAny_of (fun h => vcW_le h) _ _ _ _ (anyG_plan _ _ p _ fr st hp h))
  | .cut p K' hp h hc => vcAny_mono _ _ (fun fr' st' h => hc fr' st' h.1 h.2) (vcAny_of (fun h => vcW_le h) _ _ _ _ (anyG_plan _ _ p _ fr st hp (vcPlan_keeps p h)))
end
end Go.Proofs.YthnmbfiandpedaaGreatDoor
