/- Helpers over the kit alone: slices that are read or owned, what a call may change, append to an owned slice. No statement of its own. -/
import Derived.WalkKit
import Derived.WalkSpells
import Derived.WalkLawsBesides
import Derived.Deep.QuietTactic
import Derived.BigQuiet
import Derived.Deep.AppendSrc
import Derived.Deep.Upon
import Derived.Deep.RegionLaw
import Derived.Lib.Hide
set_option linter.unusedSimpArgs false
set_option linter.unusedVariables false
namespace Go.Proofs.YtgaidgblihnldaaGreatDoor
open Go.RowKit

/-- The slice value v holds n elements of 'size' cells, the cells xs: to be read. -/
structure Has (w : World) (size : Nat) (v : Value) (n : Nat) (xs : List Value) : Prop where
  len : xs.length = n * size
  is : (n = 0 ∧ ∃ a c, v = .slice a 0 c ∧ c ≤ maxLen) ∨ ∃ g o cap, v = .slice (some ⟨g, o, none⟩) n cap ∧ n ≤ cap ∧ cap ≤ maxLen ∧ ∀ j, j < n * size → w.cell? ⟨g, o + j, none⟩ = xs[j]?

/-- .. and it is the call's own: from block base on, all its capacity may be written. -/
structure Own (w : World) (base : Nat) (size : Nat) (v : Value) (n : Nat) (xs : List Value) : Prop where
  len : xs.length = n * size
  is : (v = .slice none 0 0 ∧ n = 0) ∨ ∃ g o cap, v = .slice (some ⟨g, o, none⟩) n cap ∧ base ≤ g ∧ g < w.heap.size ∧ n ≤ cap ∧ cap ≤ maxLen ∧ (∀ j, j < n * size → w.cell? ⟨g, o + j, none⟩ = xs[j]?) ∧
    ∀ j, j < cap * size → (w.cell? ⟨g, o + j, none⟩).isSome = true ∧ w.frozen? ⟨g, o + j, none⟩ = false

/-- What may have turned: blocks of S, and new ones. -/
structure Chg (w w' : World) (S : Nat → Prop) : Prop where
  os : w'.os = w.os
  tape : w'.tape = w.tape
  output : w'.output = w.output
  size : w.heap.size ≤ w'.heap.size
  block : ∀ k, k < w.heap.size → ¬ S k → w'.heap[k]? = w.heap[k]?

section
variable {w w' w'' : World} {S : Nat → Prop}

theorem Chg.refl (w : World) (S : Nat → Prop) : Chg w w S := ⟨rfl, rfl, rfl, Nat.le_refl _, fun _ _ _ => rfl⟩
theorem Chg.trans (h : Chg w w' S) (k : Chg w' w'' S) : Chg w w'' S :=
  ⟨k.os.trans h.os, k.tape.trans h.tape, k.output.trans h.output, Nat.le_trans h.size k.size, fun i hi hs => (k.block i (Nat.lt_of_lt_of_le hi h.size) hs).trans (h.block i hi hs)⟩
theorem Chg.mono {T : Nat → Prop} (h : Chg w w' S) (hs : ∀ k, k < w.heap.size → S k → T k) : Chg w w' T := ⟨h.os, h.tape, h.output, h.size, fun i hi ht => h.block i hi (fun s => ht (hs i hi s))⟩
theorem Chg.alloc (h : Chg w w' S) (o : Obj) : Chg w (w'.alloc o) S :=
  ⟨h.os, h.tape, h.output, by have := h.size; simp; omega, fun i hi hs => (Below.heap_alloc _ _ _ (Nat.lt_of_lt_of_le hi h.size)).trans (h.block i hi hs)⟩
theorem Chg.setCell (h : Chg w w' S) {a : Addr} (ha : w.heap.size ≤ a.block ∨ S a.block) (u : Value) : Chg w (w'.setCell a u) S :=
  ⟨h.os, h.tape, h.output, by have := h.size; simp [World.setCell]; omega, fun i hi hs => (Below.heap_setCell _ _ _ _ (fun e => by subst e; rcases ha with ha | ha; exact absurd hi (by omega); exact hs ha)).trans (h.block i hi hs)⟩
theorem Chg.next {T : Nat → Prop} (h : Chg w w' T) (k : Chg w' w'' S) (hs : ∀ i, i < w.heap.size → S i → T i) : Chg w w'' T :=
  ⟨k.os.trans h.os, k.tape.trans h.tape, k.output.trans h.output, Nat.le_trans h.size k.size, fun i hi ht => (k.block i (Nat.lt_of_lt_of_le hi h.size) (fun s => ht (hs i hi s))).trans (h.block i hi ht)⟩
theorem Chg.set (w : World) (b o : Nat) (u : Value) : Chg w (w.setCell ⟨b, o, none⟩ u) (fun k => k = b) := Chg.setCell (a := ⟨b, o, none⟩) (S := fun k => k = b) (Chg.refl w _) (.inr rfl) u
theorem Chg.drewN (h : Chg w w' S) (n : Nat) : Chg w (w'.drewN n) S := ⟨h.os, h.tape, h.output, h.size, h.block⟩
theorem Chg.drew (h : Chg w w' S) : Chg w w'.drew S := ⟨h.os, h.tape, h.output, h.size, h.block⟩
theorem Chg.grown {row : Option Nat} (h : w.grownBy w' row) : Chg w w' (fun k => row = some k) := ⟨h.os, h.tape, h.output, h.size, fun i hi hs => h.block i hi (fun e => hs e.symm)⟩
theorem Chg.of_below (h : Below w.heap.size w w') : Chg w w' S := ⟨h.os, h.tape, h.output, h.size, fun i hi _ => h.block i hi⟩
theorem Chg.below {B : Nat} (h : Chg w w' S) (hB : B ≤ w.heap.size) (hs : ∀ k, k < B → ¬ S k) : Below B w w' := ⟨h.os, h.tape, h.output, h.size, fun i hi => h.block i (by omega) (hs i hi)⟩
theorem Chg.cell (h : Chg w w' S) {a : Addr} {v : Value} (hc : w.cell? a = some v) (hs : ¬ S a.block) : w'.cell? a = some v :=
  (World.cell?_of_block (h.block a.block (World.block_lt_of_cell? w a hc) hs)).trans hc
theorem Chg.cellq (h : Chg w w' S) {a : Addr} (hc : a.block < w.heap.size) (hs : ¬ S a.block) : w'.cell? a = w.cell? a := World.cell?_of_block (h.block a.block hc hs)
theorem Chg.frozenq (h : Chg w w' S) {a : Addr} (hc : a.block < w.heap.size) (hs : ¬ S a.block) : w'.frozen? a = w.frozen? a := World.frozen?_of_block (h.block a.block hc hs)

theorem Has.chg {size : Nat} {v : Value} {n : Nat} {xs : List Value} (h : Has w size v n xs) (c : Chg w w' S) (hs : ∀ g, v.ownBlock = some g → ¬ S g) : Has w' size v n xs := by
  refine ⟨h.len, ?_⟩
  rcases h.is with h0 | ⟨g, o, cap, rfl, h1, h2, h3⟩
  · exact .inl h0
  · refine .inr ⟨g, o, cap, rfl, h1, h2, fun j hj => ?_⟩
    have hl : j < xs.length := by rw [h.len]; exact hj
    have e := h3 j hj
    rw [List.getElem?_eq_getElem hl] at e ⊢
    exact c.cell e (hs g rfl)

theorem Own.chg {base size : Nat} {v : Value} {n : Nat} {xs : List Value} (h : Own w base size v n xs) (c : Chg w w' S) (hs : ∀ g, v.ownBlock = some g → ¬ S g) : Own w' base size v n xs := by
  refine ⟨h.len, ?_⟩
  rcases h.is with h0 | ⟨g, o, cap, rfl, hb, hg, h1, h2, h3, h4⟩
  · exact .inl h0
  · have hn := hs g rfl
    refine .inr ⟨g, o, cap, rfl, hb, Nat.lt_of_lt_of_le hg c.size, h1, h2, fun j hj => ?_, fun j hj => ?_⟩
    · rw [c.cellq (a := ⟨g, o + j, none⟩) hg hn]; exact h3 j hj
    · rw [c.cellq (a := ⟨g, o + j, none⟩) hg hn, c.frozenq (a := ⟨g, o + j, none⟩) hg hn]; exact h4 j hj

theorem Own.has {base size : Nat} {v : Value} {n : Nat} {xs : List Value} (h : Own w base size v n xs) : Has w size v n xs := by
  refine ⟨h.len, ?_⟩
  rcases h.is with ⟨rfl, rfl⟩ | ⟨g, o, cap, hv, _, _, h1, h2, h3, _⟩
  · exact .inl ⟨rfl, _, _, rfl, Nat.zero_le _⟩
  · exact .inr ⟨g, o, cap, hv, h1, h2, h3⟩

theorem Own.mono {base base' size : Nat} {v : Value} {n : Nat} {xs : List Value} (h : Own w base size v n xs) (hb : base' ≤ base) : Own w base' size v n xs := by
  refine ⟨h.len, ?_⟩
  rcases h.is with h0 | ⟨g, o, cap, hv, h1, h2⟩
  · exact .inl h0
  · exact .inr ⟨g, o, cap, hv, Nat.le_trans hb h1, h2⟩

theorem Own.lt {base size : Nat} {v : Value} {n : Nat} {xs : List Value} (h : Own w base size v n xs) : ∀ g, v.ownBlock = some g → base ≤ g ∧ g < w.heap.size := by
  intro k hk
  rcases h.is with ⟨rfl, _⟩ | ⟨g, o, cap, rfl, h1, h2, _⟩
  · simp [Value.ownBlock] at hk
  · simp [Value.ownBlock] at hk; subst hk; exact ⟨h1, h2⟩

theorem Own.nil (w : World) (base size : Nat) : Own w base size (.slice none 0 0) 0 [] := ⟨by simp, .inl ⟨rfl, rfl⟩⟩

theorem Own.of_row {base e size : Nat} {v : Value} {n : Nat} {xs : List Value} (h : w.ownsRow base e size v n xs) : Own w base size v n xs := by
  refine ⟨h.1, ?_⟩
  rcases h.2 with h0 | ⟨g, cap, cur, rfl, hb, hg, hn, hm, hs, ht⟩
  · exact .inl h0
  · refine .inr ⟨g, 0, cap, rfl, hb, (Array.getElem?_eq_some_iff.1 hg).1, hn, hm, fun j hj => ?_, fun j hj => ?_⟩
    · rw [Nat.zero_add, cell_of_row w g j cur e (0, 0) hg, ← ht, List.getElem?_take, if_pos hj]; simp
    · rw [Nat.zero_add, cell_of_row w g j cur e (0, 0) hg]
      refine ⟨by simp; omega, ?_⟩
      simp [World.frozen?, hg]

theorem Has.slice {size : Nat} {v : Value} {n : Nat} {xs : List Value} (h : Has w size v n xs) : ∃ a c, v = .slice a n c ∧ n ≤ c ∧ c ≤ maxLen := by
  rcases h.is with ⟨rfl, a, c, rfl, hc⟩ | ⟨g, o, cap, rfl, h1, h2, _⟩
  · exact ⟨_, _, rfl, Nat.zero_le _, hc⟩
  · exact ⟨_, _, rfl, h1, h2⟩

theorem Has.src {P : Program} {tx e' : TypeId} {size : Nat} {v : Value} {n : Nat} {xs : List Value} (h : Has w size v n xs) (hk : P.underlying tx = some (.slice e')) (h1 : ∀ u ∈ xs, u.oneCell' = true) : Src P size tx v n xs w := by
  rcases h.is with ⟨rfl, a, c, rfl, _⟩ | ⟨g, o, cap, rfl, _, _, h3⟩
  · have : xs = [] := List.eq_nil_of_length_eq_zero (by simpa using h.len)
    subst this
    cases a with
    | none => exact Src.ofNil w hk c
    | some a => exact Src.ofSlice w hk a 0 c [] (by simp) (fun j u hu => by simp at hu) h1
  · refine Src.ofSlice w hk _ _ _ xs h.len (fun j u hu => ?_) h1
    have hj : j < n * size := by rw [← h.len]; exact (List.getElem?_eq_some_iff.1 hu).1
    rw [Addr.add_lit, h3 j hj, hu]

theorem Has.nil (w : World) (size : Nat) : Has w size (.slice none 0 0) 0 [] := ⟨by simp, .inl ⟨rfl, _, _, rfl, Nat.zero_le _⟩⟩

/-- a block known whole holds a row of its own -/
theorem Own.block {base : Nat} {cs : Array Value} {t : TypeId} {g size n : Nat} (hg : w.heap[g]? = some (.cells cs t (0, 0))) (hb : base ≤ g) (hs : cs.size = n * size) (hn : n ≤ maxLen) :
    Own w base size (.slice (some ⟨g, 0, none⟩) n n) n cs.toList := by
  refine ⟨by simpa using hs, .inr ⟨g, 0, n, rfl, hb, (Array.getElem?_eq_some_iff.1 hg).1, Nat.le_refl _, hn, fun j hj => ?_, fun j hj => ?_⟩⟩
  · rw [Nat.zero_add, cell_of_row w g j cs t (0, 0) hg]; simp
  · rw [Nat.zero_add, cell_of_row w g j cs t (0, 0) hg]
    refine ⟨by simp; omega, ?_⟩
    simp [World.frozen?, hg]
theorem Own.new {base : Nat} {cs : Array Value} {t : TypeId} {size n : Nat} (hb : base ≤ w.heap.size) (hs : cs.size = n * size) (hn : n ≤ maxLen) :
    Own (w.alloc (.cells cs t)) base size (.slice (some ⟨w.heap.size, 0, none⟩) n n) n cs.toList := Own.block (heap_alloc_new w _) hb hs hn
end

theorem cellNew {w : World} {cs : Array Value} {T : TypeId} {n i : Nat} {v : Value} (hn : w.heap.size = n) (hv : cs[i]? = some v) : (w.alloc (.cells cs T)).cell? ⟨n, i, none⟩ = some v := by
  rw [World.cell?_alloc_at (hn := hn.symm)]; exact hv

theorem quiet_left {P : Program} {f : FuncId} {args : Array Value} {w : World} {n : Nat} {v : Value}
    (h : Calls P f args (w.drewN n) fun e w' => e = .returned v ∧ w.drewN n = w') : Calls P f args (w.drewN n) fun e w'' => e = .returned v ∧ ∃ m, w'' = w.drewN m :=
  h.mono fun _ _ ⟨he, hm⟩ => ⟨he, n, hm.symm⟩
theorem quiet_dr {P : Program} {f : FuncId} {args : Array Value} {w : World} {n : Nat} {v : Value}
    (h : Calls P f args (w.drewN n) fun e w' => e = .returned v ∧ ∃ m, w' = (w.drewN n).drewN m) : Calls P f args (w.drewN n) fun e w'' => e = .returned v ∧ ∃ m, w'' = w.drewN m :=
  h.mono fun _ _ ⟨he, m, hm⟩ => ⟨he, n + m, by rw [hm, World.drewN_drewN]⟩
theorem quiet_add_left {P : Program} {f : FuncId} {args : Array Value} {w : World} {a n : Nat} {v : Value}
    (h : Calls P f args (w.drewN (a + n)) fun e w' => e = .returned v ∧ w.drewN (a + n) = w') :
    Calls P f args (w.drewN (a + n)) fun e w'' => e = .returned v ∧ ∃ m, w'' = w.drewN (a + m) :=
  h.mono fun _ _ ⟨he, hm⟩ => ⟨he, n, hm.symm⟩
theorem quiet_add_dr {P : Program} {f : FuncId} {args : Array Value} {w : World} {a n : Nat} {v : Value}
    (h : Calls P f args (w.drewN (a + n)) fun e w' => e = .returned v ∧ ∃ m, w' = (w.drewN (a + n)).drewN m) :
    Calls P f args (w.drewN (a + n)) fun e w'' => e = .returned v ∧ ∃ m, w'' = w.drewN (a + m) :=
  h.mono fun _ _ ⟨he, m, hm⟩ => ⟨he, n + m, by rw [hm, World.drewN_drewN, Nat.add_assoc]⟩

theorem heap_set {w : World} {b o : Nat} {cs : Array Value} {T : TypeId} (h : w.heap[b]? = some (.cells cs T (0, 0))) (x : Value) : (w.setCell ⟨b, o, none⟩ x).heap[b]? = some (.cells (cs.setIfInBounds o x) T (0, 0)) := by
  simp [World.setCell, Array.getElem?_modify, h]

theorem size_setCells' (b : Nat) : ∀ (vs : List Value) (o : Nat) (w : World), (w.setCells b o vs).heap.size = w.heap.size
  | [], _, _ => rfl
  | v :: r, o, w => by rw [World.setCells, size_setCells' b r]; simp
theorem tape_setCells' (b : Nat) : ∀ (vs : List Value) (o : Nat) (w : World), (w.setCells b o vs).tape = w.tape
  | [], _, _ => rfl
  | v :: r, o, w => by rw [World.setCells, tape_setCells' b r]; rfl

section
variable {P : Program} (w : World)

theorem run_app (base : Nat) (t tx ty e : TypeId) (i : TypeInfo) (z : Value) (size bytes : Nat) (ht : P.underlying t = some (.slice e)) (hi : P.info? e = some i) (hz : i.zero = some z)
    (hsize : i.size = size) (hby : i.bytes = bytes) (hzs : z.cells.size = size)
    (v : Value) (n : Nat) (xs : List Value) (hown : Own w base size v n xs)
    (xv : Value) (m : Nat) (news : List Value) (hs : Src P size tx xv m news w)
    (h63 : n + m ≤ maxLen) (hbytes : (n + m) * bytes ≤ 140737488355328) (hbase : base ≤ w.heap.size) :
    ∃ v' w', (Builtin.append_ #[t, tx] ty #[v, xv]).run P w = .ok v' w' ∧ Own w' base size v' (n + m) (xs ++ news) ∧ Chg w w' (fun k => v.ownBlock = some k) ∧ (v'.ownBlock = v.ownBlock ∨ v'.ownBlock = some w.heap.size) := by
  subst hsize
  subst hby
  have hsmall : n + m ≤ 9223372036854775807 := by simp only [maxLen] at h63; omega
  have hlen : (xs ++ news).length = (n + m) * i.size := by rw [List.length_append, hown.len, hs.newsLen, Nat.add_mul]
  have grow : ∀ (b : Option Addr) (cap : Nat), cap < n + m → v = .slice b n cap → (Builtin.firstCells i.size n (.slice b n cap)).run P w.drew = .ok xs.toArray w.drew →
      ∃ v' w', (Builtin.append_ #[t, tx] ty #[v, xv]).run P w = .ok v' w' ∧ Own w' base i.size v' (n + m) (xs ++ news) ∧ Chg w w' (fun k => v.ownBlock = some k) ∧ (v'.ownBlock = v.ownBlock ∨ v'.ownBlock = some w.heap.size) := by
    intro b cap hc hv hold
    subst hv
    have hr := run_append_grow_src (P := P) w t tx ty e i z ht hi hz b n cap xs hold xv m news hs hc (by omega) (growslice_fits hc hbytes)
    have hge := grownCap_ge w (n + m) cap e
    have hcm : grownCap w (n + m) cap e ≤ maxLen := grownCap_le_maxLen w (n + m) cap e h63
    refine ⟨_, _, hr, Own.of_row (e := e) ⟨hlen, .inr ⟨w.heap.size, _, _, rfl, hbase, heap_alloc_new w.drew _, hge, hcm, ?_, ?_⟩⟩, ⟨rfl, rfl, rfl, by simp, fun k hk _ => Below.heap_alloc w.drew _ k hk⟩, .inr rfl⟩
    · simp only [Array.size_append, List.size_toArray, size_zeroCells, hzs, hlen, ← Nat.add_mul]
      congr 1
      omega
    · simp only [Array.toList_append]
      rw [← hlen]
      exact List.take_left
  rcases hown.is with ⟨rfl, rfl⟩ | ⟨g, o, cap, rfl, hb, hg, hn, hm, hc, hf⟩
  · have hx : xs = [] := List.eq_nil_of_length_eq_zero (by simpa using hown.len)
    subst hx
    by_cases hm : m = 0
    · subst hm
      have hnn : news = [] := List.eq_nil_of_length_eq_zero (by simpa using hs.newsLen)
      subst hnn
      exact ⟨_, _, run_append_nothing (P := P) w t tx ty e i ht hi none 0 0 (Nat.le_refl _) xv hs, Own.nil w base i.size, Chg.refl _ _, .inl rfl⟩
    · exact grow none 0 (by omega) rfl (run_firstCells_none w.drew i.size 0 0 0)
  · by_cases hroom : n + m ≤ cap
    · have hle : (n + m) * i.size ≤ cap * i.size := Nat.mul_le_mul_right _ hroom
      have hnl : news.length = m * i.size := hs.newsLen
      rw [Nat.add_mul] at hle
      have hcs : ∀ j, j < news.length → (w.cell? ⟨g, o + n * i.size + j, none⟩).isSome = true := fun j hj => by
        have := (hf (n * i.size + j) (by omega)).1
        rwa [← Nat.add_assoc] at this
      have hr := run_append_room_src (P := P) w t tx ty e i ht hi g o n cap xv m news hs hroom hcs
        (fun j hj => by have := (hf (n * i.size + j) (by omega)).2; rwa [← Nat.add_assoc] at this)
      have hk := World.keptBut_setCells g (may := fun p => p.block = g) news (o + n * i.size) w (fun _ _ => rfl)
      have hblk : ∀ k, k < w.heap.size → k ≠ g → (w.setCells g (o + n * i.size) news).heap[k]? = w.heap[k]? := fun k hk' hne => World.heap_setCells_other w g _ news hk' hne
      have hsz : (w.setCells g (o + n * i.size) news).heap.size = w.heap.size := size_setCells' g news _ w
      refine ⟨_, _, hr, ⟨hlen, .inr ⟨g, o, cap, rfl, hb, by rw [hsz]; exact hg, hroom, hm, fun j hj => ?_, fun j hj => ?_⟩⟩, ⟨World.os_setCells w g _ news, tape_setCells' g news _ w, World.output_setCells w g _ news, by rw [hsz]; exact Nat.le_refl _, fun k hk' hne => hblk k hk' (fun e => hne (by subst e; rfl))⟩, .inl rfl⟩
      · rw [Nat.add_mul] at hj
        by_cases hj' : j < n * i.size
        · rw [World.cell?_setCells_out g news _ w ⟨g, o + j, none⟩ (fun _ _ => .inl (by simp; omega)), hc j hj', List.getElem?_append_left (by rw [hown.len]; exact hj')]
        · have e : o + j = o + n * i.size + (j - n * i.size) := by omega
          rw [e, World.cell?_setCells_in g news _ w hcs _ (by omega), List.getElem?_append_right (by rw [hown.len]; omega), hown.len, List.getElem?_eq_getElem]
      · rw [World.frozen?_setCells]
        refine ⟨?_, (hf j hj).2⟩
        by_cases hin : n * i.size ≤ j ∧ j < n * i.size + news.length
        · have e : o + j = o + n * i.size + (j - n * i.size) := by omega
          rw [e, World.cell?_setCells_in g news _ w hcs _ (by omega)]; rfl
        · rw [World.cell?_setCells_out g news _ w ⟨g, o + j, none⟩ (fun _ _ => by simp; omega)]
          exact (hf j hj).1
    · refine grow _ cap (by omega) rfl (run_firstCells_some (P := P) w.drew i.size n ⟨g, o, none⟩ n cap xs hown.len (fun j u hu => ?_))
      have hj : j < n * i.size := by rw [← hown.len]; exact (List.getElem?_eq_some_iff.1 hu).1
      rw [Addr.add_lit, World.cell?_drew, hc j hj, hu]

theorem wp_app {o : Oper} {a : Act} {K : Act → World → Prop} {Q : Exit → Act → World → Prop} (s x : Operand) (t tx : TypeId)
    (ho : o.op = .call { callee := .builtin .append, args := #[s, x], argTypes := #[t, tx] })
    (base : Nat) (e : TypeId) (i : TypeInfo) (z : Value) (size bytes : Nat) (ht : P.underlying t = some (.slice e)) (hi : P.info? e = some i) (hz : i.zero = some z)
    (hsize : i.size = size) (hby : i.bytes = bytes) (hzs : z.cells.size = size)
    (v : Value) (n : Nat) (xs : List Value) (hv : a.eval s = v) (hown : Own w base size v n xs)
    (xv : Value) (m : Nat) (news : List Value) (hx : a.eval x = xv) (hs : Src P size tx xv m news w)
    (h63 : n + m ≤ maxLen) (hbytes : (n + m) * bytes ≤ 140737488355328) (hbase : base ≤ w.heap.size)
    (h : ∀ a' c' w', Own w' base size (.slice a' (n + m) c') (n + m) (xs ++ news) → Chg w w' (fun k => v.ownBlock = some k) → ((Value.slice a' (n + m) c').ownBlock = v.ownBlock ∨ (Value.slice a' (n + m) c').ownBlock = some w.heap.size) → K (a.put o.dst (.slice a' (n + m) c')) w') : o.wp P a w K Q := by
  obtain ⟨v', w', hr, h2, h3, h4⟩ := run_app (P := P) w base t tx o.type e i z size bytes ht hi hz hsize hby hzs v n xs hown xv m news hs h63 hbytes hbase
  unfold Oper.wp execOp
  simp only [ho, resolve, invoke, builtin, Sem.run_bind, Sem.run_pure, Result.andThen_ok, List.map_toArray, List.map_cons, List.map_nil, hv, hx, hr]
  obtain ⟨a', c', rfl, _⟩ := h2.has.slice
  exact h a' c' w' h2 h3 h4

theorem wpList_app {ops : Array Oper} {rest : List Oper} {o : Oper} {a : Act} {Q : Exit → Act → World → Prop} (hgd : o.guard = none) (s x : Operand) (t tx : TypeId)
    (ho : o.op = .call { callee := .builtin .append, args := #[s, x], argTypes := #[t, tx] })
    (base : Nat) (e : TypeId) (i : TypeInfo) (z : Value) (size bytes : Nat) (ht : P.underlying t = some (.slice e)) (hi : P.info? e = some i) (hz : i.zero = some z)
    (hsize : i.size = size) (hby : i.bytes = bytes) (hzs : z.cells.size = size)
    (v : Value) (n : Nat) (xs : List Value) (hv : a.eval s = v) (hown : Own w base size v n xs)
    (xv : Value) (m : Nat) (news : List Value) (hx : a.eval x = xv) (hs : Src P size tx xv m news w)
    (h63 : n + m ≤ maxLen) (hbytes : (n + m) * bytes ≤ 140737488355328) (hbase : base ≤ w.heap.size)
    (h : ∀ a' c' w', Own w' base size (.slice a' (n + m) c') (n + m) (xs ++ news) → Chg w w' (fun k => v.ownBlock = some k) → ((Value.slice a' (n + m) c').ownBlock = v.ownBlock ∨ (Value.slice a' (n + m) c').ownBlock = some w.heap.size) → wpList P ops Q rest (a.put o.dst (.slice a' (n + m) c')) w') : wpList P ops Q (o :: rest) a w :=
  wpList_plain hgd fun _ hK => wp_app w s x t tx ho base e i z size bytes ht hi hz hsize hby hzs v n xs hv hown xv m news hx hs h63 hbytes hbase fun a' c' w' h2 h3 h4 => hK _ _ (h a' c' w' h2 h3 h4)

theorem step_app {ops : Array Oper} {o : Oper} {a : Act} {K : Act → World → Prop} {Q : Exit → Act → World → Prop} {E : Prop} (hgd : o.guard = none) (s x : Operand) (t tx : TypeId)
    (ho : o.op = .call { callee := .builtin .append, args := #[s, x], argTypes := #[t, tx] })
    (base : Nat) (e : TypeId) (i : TypeInfo) (z : Value) (size bytes : Nat) (ht : P.underlying t = some (.slice e)) (hi : P.info? e = some i) (hz : i.zero = some z)
    (hsize : i.size = size) (hby : i.bytes = bytes) (hzs : z.cells.size = size)
    (v : Value) (n : Nat) (xs : List Value) (hv : a.eval s = v) (hown : Own w base size v n xs)
    (xv : Value) (m : Nat) (news : List Value) (hx : a.eval x = xv) (hs : Src P size tx xv m news w)
    (h63 : n + m ≤ maxLen) (hbytes : (n + m) * bytes ≤ 140737488355328) (hbase : base ≤ w.heap.size)
    (h : ∀ a' c' w', Own w' base size (.slice a' (n + m) c') (n + m) (xs ++ news) → Chg w w' (fun k => v.ownBlock = some k) → ((Value.slice a' (n + m) c').ownBlock = v.ownBlock ∨ (Value.slice a' (n + m) c').ownBlock = some w.heap.size) → K (a.put o.dst (.slice a' (n + m) c')) w') :
    if Region.wanted o (yielded ops a.tmps) = true then Oper.wp P o a w K Q else E := by
  have hw : Region.wanted o (yielded ops a.tmps) = true := by simp [Region.wanted, hgd]
  rw [if_pos hw]
  exact wp_app w s x t tx ho base e i z size bytes ht hi hz hsize hby hzs v n xs hv hown xv m news hx hs h63 hbytes hbase h
end
end Go.Proofs.YtgaidgblihnldaaGreatDoor
