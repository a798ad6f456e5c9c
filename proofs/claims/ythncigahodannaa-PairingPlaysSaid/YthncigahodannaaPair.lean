/- pairing: contracts of the queue. -/
import Derived.Test.YthncigahodannaaProg
import Derived.Test.YthncigahodannaaLib
import Derived.Outline
namespace Go.Proofs.Ythncigahodannaa
open Go.RowKit

def tkc (t : ByteArray × Int × Bool) : List Value := [.string t.1, .int .i64 t.2.1, .bool t.2.2]
def tcs (ts : List (ByteArray × Int × Bool)) : List Value := ts.flatMap tkc

theorem tcs_len (ts : List (ByteArray × Int × Bool)) : (tcs ts).length = ts.length * 3 := by
  induction ts with
  | nil => rfl
  | cons t r ih => simp [tcs, tkc] at ih ⊢; omega

/-- the queue at block qb -/
structure Qat (w : World) (base qb : Nat) (v : Value) (ts : List (ByteArray × Int × Bool)) (most : Int) (last : Bool) : Prop where
  ge : base ≤ qb
  blk : w.heap[qb]? = some (.cells #[v, .int .i64 most, .bool last] 45 (0, 0))
  own : Own w base 3 v ts.length (tcs ts)
  ne : v.ownBlock ≠ some qb

theorem Qat.c0 {w : World} {base qb : Nat} {v : Value} {ts : List (ByteArray × Int × Bool)} {most : Int} {last : Bool} (h : Qat w base qb v ts most last) : w.cell? ⟨qb, 0, none⟩ = some v := by rw [cell_of_row w qb 0 _ _ _ h.blk]; rfl
theorem Qat.c1 {w : World} {base qb : Nat} {v : Value} {ts : List (ByteArray × Int × Bool)} {most : Int} {last : Bool} (h : Qat w base qb v ts most last) : w.cell? ⟨qb, 1, none⟩ = some (.int .i64 most) := by rw [cell_of_row w qb 1 _ _ _ h.blk]; rfl
theorem Qat.c2 {w : World} {base qb : Nat} {v : Value} {ts : List (ByteArray × Int × Bool)} {most : Int} {last : Bool} (h : Qat w base qb v ts most last) : w.cell? ⟨qb, 2, none⟩ = some (.bool last) := by rw [cell_of_row w qb 2 _ _ _ h.blk]; rfl
theorem Qat.fr {w : World} {base qb : Nat} {v : Value} {ts : List (ByteArray × Int × Bool)} {most : Int} {last : Bool} (h : Qat w base qb v ts most last) (j : Nat) : w.frozen? ⟨qb, j, none⟩ = false := by simp [World.frozen?, h.blk]

set_option maxHeartbeats 400000 in
theorem room_any {w : World} {base qb : Nat} {v : Value} {ts : List (ByteArray × Int × Bool)} {most : Int} {last : Bool} (h : Qat w base qb v ts most last) (hm : 0 ≤ most) (hm2 : most ≤ 64) (hn : ts.length ≤ 64) :
    Calls Try.prog 15 #[.pointer (some ⟨qb, 0, none⟩)] w fun e w' => e = .returned (.int .i64 (most - ts.length)) ∧ ∃ k, w' = w.drewN k := by
  obtain ⟨a, c, hv, _, _⟩ := h.own.has.slice
  have h0 := h.c0
  have h1 := h.c1
  rw [hv] at h0; try simp only [List.length_nil] at h0
  clear hv h
  go_enter Try.func15, Try.ntmps15
  go_wp2
  go_quiet (fail)
  go_wp2
  go_ret
  exact ⟨rfl, _, rfl⟩

set_option maxHeartbeats 400000 in
theorem first_none {w : World} {base qb : Nat} {v : Value} {most : Int} {last : Bool} (h : Qat w base qb v [] most last) :
    Calls Try.prog 18 #[.pointer (some ⟨qb, 0, none⟩)] w fun e w' => e = .returned (.tuple #[.agg #[.string .empty, .int .i64 0, .bool false], .bool false]) ∧ Chg w w' (fun _ => False) := by
  obtain ⟨a, c, hv, _, _⟩ := h.own.has.slice
  have h0 := h.c0
  rw [hv] at h0; try simp only [List.length_nil] at h0
  have hq : qb < w.heap.size := (Array.getElem?_eq_some_iff.1 h.blk).1
  clear hv h
  go_enter Try.func18, Try.ntmps18
  go_wp2
  exact bodyPost_ret (v := .tuple #[.agg #[.string .empty, .int .i64 0, .bool false], .bool false]) (by simp [results, Try.results18, go_sem]; try rfl) rfl ⟨rfl, by repeat (first | exact Chg.refl _ _ | refine Chg.setCell ?_ (.inl (by simp)) _ | refine Chg.alloc ?_ _ | refine Chg.drewN ?_ _)⟩

theorem tcs_cons (t : ByteArray × Int × Bool) (r : List (ByteArray × Int × Bool)) : tcs (t :: r) = .string t.1 :: .int .i64 t.2.1 :: .bool t.2.2 :: tcs r := by simp [tcs, tkc]

/-- the first ticket's cells -/
theorem Own.first3 {w : World} {base : Nat} {v : Value} {t : ByteArray × Int × Bool} {r : List (ByteArray × Int × Bool)} (h : Own w base 3 v (t :: r).length (tcs (t :: r))) :
    ∃ g o cap, v = .slice (some ⟨g, o, none⟩) (r.length + 1) cap ∧ r.length + 1 ≤ cap ∧ cap ≤ maxLen ∧ base ≤ g ∧ g < w.heap.size ∧ w.cell? ⟨g, o, none⟩ = some (.string t.1) ∧ w.cell? ⟨g, o + 1, none⟩ = some (.int .i64 t.2.1) ∧ w.cell? ⟨g, o + 2, none⟩ = some (.bool t.2.2) := by
  rcases h.is with ⟨_, h0⟩ | ⟨g, o, cap, hv, hb, hg, hn, hm, hc, _⟩
  · simp at h0
  · simp only [List.length_cons] at hn hc hv
    refine ⟨g, o, cap, hv, hn, hm, hb, hg, ?_, ?_, ?_⟩
    · have := hc 0 (by omega); simpa [tcs_cons] using this
    · have := hc 1 (by omega); simpa [tcs_cons] using this
    · have := hc 2 (by omega); simpa [tcs_cons] using this

set_option maxHeartbeats 400000 in
theorem first_some {w : World} {base qb : Nat} {v : Value} {t : ByteArray × Int × Bool} {r : List (ByteArray × Int × Bool)} {most : Int} {last : Bool} (h : Qat w base qb v (t :: r) most last) :
    Calls Try.prog 18 #[.pointer (some ⟨qb, 0, none⟩)] w fun e w' => e = .returned (.tuple #[.agg #[.string t.1, .int .i64 t.2.1, .bool t.2.2], .bool true]) ∧ Chg w w' (fun _ => False) := by
  obtain ⟨g, o, cap, hv, _, _, hb, hg, k0, k1, k2⟩ := h.own.first3
  have h0 := h.c0
  rw [hv] at h0
  have hq : qb < w.heap.size := (Array.getElem?_eq_some_iff.1 h.blk).1
  clear hv h
  go_enter Try.func18, Try.ntmps18
  go_wp2
  exact bodyPost_ret (v := .tuple #[.agg #[.string t.1, .int .i64 t.2.1, .bool t.2.2], .bool true]) (by simp [results, Try.results18, go_sem]; try rfl) rfl ⟨rfl, by repeat (first | exact Chg.refl _ _ | refine Chg.setCell ?_ (.inl (by simp)) _ | refine Chg.alloc ?_ _ | refine Chg.drewN ?_ _)⟩

theorem Qat.chg {w w' : World} {S : Nat → Prop} {base qb : Nat} {v : Value} {ts : List (ByteArray × Int × Bool)} {most : Int} {last : Bool} (h : Qat w base qb v ts most last) (c : Chg w w' S) (h1 : ¬ S qb) (h2 : ∀ g, v.ownBlock = some g → ¬ S g) :
    Qat w' base qb v ts most last := ⟨h.ge, (c.block qb (Array.getElem?_eq_some_iff.1 h.blk).1 h1).trans h.blk, h.own.chg c h2, h.ne⟩
theorem Qat.lt {w : World} {base qb : Nat} {v : Value} {ts : List (ByteArray × Int × Bool)} {most : Int} {last : Bool} (h : Qat w base qb v ts most last) : qb < w.heap.size := (Array.getElem?_eq_some_iff.1 h.blk).1

theorem Qat.put {w : World} {base qb : Nat} {v v2 : Value} {ts ts2 : List (ByteArray × Int × Bool)} {most : Int} {last : Bool} (h : Qat w base qb v ts most last) (ho : Own w base 3 v2 ts2.length (tcs ts2)) (hne : v2.ownBlock ≠ some qb) :
    Qat (w.setCell ⟨qb, 0, none⟩ v2) base qb v2 ts2 most last :=
  ⟨h.ge, by rw [heap_set h.blk]; rfl, ho.chg ((Chg.refl w (fun k => k = qb)).setCell (.inr rfl) _) (fun g hg e => hne (by subst e; exact hg)), hne⟩

theorem Qat.put2 {w : World} {base qb : Nat} {v : Value} {ts : List (ByteArray × Int × Bool)} {most : Int} {last : Bool} (h : Qat w base qb v ts most last) (l : Bool) :
    Qat (w.setCell ⟨qb, 2, none⟩ (.bool l)) base qb v ts most l :=
  ⟨h.ge, by rw [heap_set h.blk]; rfl, h.own.chg ((Chg.refl w (fun k => k = qb)).setCell (.inr rfl) _) (fun g hg e => h.ne (by subst e; exact hg)), h.ne⟩

theorem Own.none3 {w : World} {base : Nat} {v : Value} {n o : Nat} {xs : List Value} {k : Nat} (h : Own w base 3 v n xs) (hk : some k = v.ownBlock) : Own w base 3 (.slice (some ⟨k, o, none⟩) 0 0) 0 (tcs []) := by
  obtain ⟨h1, h2⟩ := h.lt k hk.symm
  exact ⟨rfl, .inr ⟨k, o, 0, rfl, h1, h2, Nat.le_refl _, Nat.zero_le _, fun j hj => absurd hj (by omega), fun j hj => absurd hj (by omega)⟩⟩

theorem Own.tail3 {w : World} {base g o cap : Nat} {t : ByteArray × Int × Bool} {r : List (ByteArray × Int × Bool)} (h : Own w base 3 (.slice (some ⟨g, o, none⟩) (r.length + 1) cap) (t :: r).length (tcs (t :: r))) :
    Own w base 3 (.slice (some ⟨g, o + 3, none⟩) r.length (cap - 1)) r.length (tcs r) := by
  rcases h.is with ⟨h0, _⟩ | ⟨g', o', cap', hv, hb, hg, hn, hm, hc, hf⟩
  · cases h0
  · cases hv
    simp only [List.length_cons] at hn hc
    refine ⟨tcs_len r, .inr ⟨g, o + 3, cap - 1, rfl, hb, hg, by omega, by omega, fun j hj => ?_, fun j hj => ?_⟩⟩
    · have := hc (j + 3) (by omega)
      rw [tcs_cons] at this
      simpa [Nat.add_assoc, Nat.add_comm 3 j] using this
    · have := hf (j + 3) (by omega)
      simpa [Nat.add_assoc, Nat.add_comm 3 j] using this

set_option maxHeartbeats 400000 in
theorem drop_none {w : World} {base qb : Nat} {v : Value} {most : Int} {last : Bool} (h : Qat w base qb v [] most last) :
    Calls Try.prog 14 #[.pointer (some ⟨qb, 0, none⟩)] w fun e w' => e = .returned (.bool false) ∧ Chg w w' (fun _ => False) := by
  go_enter Try.func14, Try.ntmps14
  go_wp2_with (refine (first_none h).mono ?_; rintro e w1 ⟨rfl, hc⟩)
  go_ret
  exact ⟨rfl, hc.alloc _⟩

set_option maxHeartbeats 400000 in
theorem drop_some {w : World} {base qb : Nat} {v : Value} {t : ByteArray × Int × Bool} {r : List (ByteArray × Int × Bool)} {most : Int} {last : Bool} (h : Qat w base qb v (t :: r) most last) :
    Calls Try.prog 14 #[.pointer (some ⟨qb, 0, none⟩)] w fun e w' => e = .returned (.bool true) ∧ Chg w w' (fun k => k = qb) ∧ ∃ v', Qat w' base qb v' r most last ∧ v'.ownBlock = v.ownBlock := by
  obtain ⟨g, o, cap, hv, hn, hm, hb, hg, k0, k1, k2⟩ := h.own.first3
  have hq : qb < w.heap.size := (Array.getElem?_eq_some_iff.1 h.blk).1
  go_enter Try.func14, Try.ntmps14
  go_wp2_with fail
  refine (first_some h).mono ?_; rintro e w1 ⟨rfl, hc⟩
  have h' := h.chg hc (fun h => h) (fun _ _ h => h)
  have h0 := h'.c0
  have hf := h'.fr 0
  have hq1 := h'.lt
  rw [hv] at h0
  unfold maxLen at hm
  by_cases hcap : cap = 1
  · subst hcap
    have hr : r.length = 0 := by omega
    go_wp2_with fail
    go_ret
    have hr0 : r = [] := List.eq_nil_of_length_eq_zero hr
    subst hr0
    refine ⟨rfl, ?_, _, (h'.put (v2 := .slice (some ⟨g, o, none⟩) 0 0) (ts2 := []) (h'.own.none3 (by rw [hv]; rfl)) (fun e => h'.ne (by rw [hv]; exact e))).chg ((Chg.refl _ (fun _ => False)).alloc _) (fun h => h) (fun _ _ h => h), by rw [hv]; rfl⟩
    refine Chg.alloc (Chg.setCell (hc.mono (fun _ _ h => h.elim)) ?_ _) _
    exact .inr rfl
  · go_wp2_with fail
    go_ret
    have ho := h'.own
    rw [hv] at ho
    refine ⟨rfl, ?_, _, (h'.put (v2 := .slice (some ⟨g, o + 3, none⟩) r.length (cap - 1)) (ts2 := r) ho.tail3 (fun e => h'.ne (by rw [hv]; exact e))).chg ((Chg.refl _ (fun _ => False)).alloc _) (fun h => h) (fun _ _ h => h), by rw [hv]; rfl⟩
    refine Chg.alloc (Chg.setCell (hc.mono (fun _ _ h => h.elim)) ?_ _) _
    exact .inr rfl

set_option maxHeartbeats 400000 in
theorem closes (t : ByteArray × Int × Bool) (w : World) :
    Calls Try.prog 20 #[.agg #[.string t.1, .int .i64 t.2.1, .bool t.2.2]] w fun e w' => e = .returned (.bool t.2.2) ∧ Chg w w' (fun _ => False) := by
  go_enter Try.func20, Try.ntmps20
  go_wp2
  go_ret
  exact ⟨rfl, (Chg.refl _ _).alloc _⟩

theorem tcs_at (ts : List (ByteArray × Int × Bool)) : ∀ (k : Nat) (hk : k < ts.length), (tcs ts)[k * 3]? = some (.string ts[k].1) ∧ (tcs ts)[k * 3 + 1]? = some (.int .i64 ts[k].2.1) ∧ (tcs ts)[k * 3 + 2]? = some (.bool ts[k].2.2) := by
  induction ts with
  | nil => intro k hk; simp at hk
  | cons t r ih =>
    intro k hk
    rcases k with _ | k
    · simp [tcs_cons]
    · have := ih k (by simpa using hk)
      rw [show (k + 1) * 3 = k * 3 + 3 from by omega, show k * 3 + 3 + 1 = k * 3 + 1 + 3 from by omega, show k * 3 + 3 + 2 = k * 3 + 2 + 3 from by omega]
      simpa [tcs_cons] using this

theorem Has.at3 {w : World} {v : Value} {ts : List (ByteArray × Int × Bool)} (h : Has w 3 v ts.length (tcs ts)) (hp : 0 < ts.length) :
    ∃ g o cap, v = .slice (some ⟨g, o, none⟩) ts.length cap ∧ ts.length ≤ cap ∧ cap ≤ maxLen ∧ g < w.heap.size ∧ ∀ k (hk : k < ts.length), w.cell? ⟨g, o + k * 3, none⟩ = some (.string ts[k].1) ∧ w.cell? ⟨g, o + k * 3 + 1, none⟩ = some (.int .i64 ts[k].2.1) ∧ w.cell? ⟨g, o + k * 3 + 2, none⟩ = some (.bool ts[k].2.2) := by
  rcases h.is with ⟨h0, _⟩ | ⟨g, o, cap, hv, hn, hm, hc⟩
  · omega
  · have all : ∀ k (hk : k < ts.length), w.cell? ⟨g, o + k * 3, none⟩ = some (.string ts[k].1) ∧ w.cell? ⟨g, o + k * 3 + 1, none⟩ = some (.int .i64 ts[k].2.1) ∧ w.cell? ⟨g, o + k * 3 + 2, none⟩ = some (.bool ts[k].2.2) := fun k hk => by
      obtain ⟨e0, e1, e2⟩ := tcs_at ts k hk
      exact ⟨(hc _ (by omega)).trans e0, by rw [Nat.add_assoc]; exact (hc _ (by omega)).trans e1, by rw [Nat.add_assoc]; exact (hc _ (by omega)).trans e2⟩
    exact ⟨g, o, cap, hv, hn, hm, World.block_lt_of_cell? _ _ (all 0 hp).1, all⟩

def fi (ts : List (ByteArray × Int × Bool)) : Int := match ts.findIdx? (·.2.2) with | some i => i | none => -1

set_option maxHeartbeats 400000 in
theorem index_any {w : World} {v : Value} {ts : List (ByteArray × Int × Bool)} (h : Has w 3 v ts.length (tcs ts)) :
    Calls Try.prog 19 #[v, .func (.func 20) #[] #[]] w fun e w' => e = .returned (.int .i64 (fi ts)) ∧ Chg w w' (fun _ => False) := by
  obtain ⟨a, c, hv, hl, hm⟩ := h.slice
  unfold maxLen at hm
  rw [hv]
  go_enter Try.func19, Try.ntmps19
  go_wp2
  go_loopw [8] (fun i wr => ∃ k : Nat, k ≤ ts.length ∧ i = .int .i64 k ∧ Chg w wr (fun _ => False) ∧ ∀ j (hj : j < ts.length), j < k → ts[j].2.2 = false) (fun i _ => ts.length - (intOf i).toNat)
  case atStart => exact ⟨0, by omega, rfl, Chg.refl _ _, fun j _ h => absurd h (by omega)⟩
  case round =>
    obtain ⟨k, hk, rfl, hc, hno⟩ := hrel
    by_cases hlt : k < ts.length
    · obtain ⟨g, o, cap, hv', _, _, hg, hat⟩ := (h.chg hc (fun _ _ h => h)).at3 (by omega)
      obtain ⟨k0, k1, k2⟩ := hat k hlt
      obtain ⟨rfl, rfl⟩ : a = some ⟨g, o, none⟩ ∧ c = cap := by rw [hv] at hv'; simpa using hv'
      unfold maxLen at *
      go_wp2_with fail
      refine (closes ts[k] wr).mono ?_; rintro e w2 ⟨rfl, hc2⟩
      cases hb : ts[k].2.2
      · go_wp2_with fail
        go_roundw
        case rel =>
          refine ⟨k + 1, by omega, by go_num, hc.trans hc2, fun j hj hjk => ?_⟩
          by_cases e : j = k
          · subst e; exact hb
          · exact hno j hj (by omega)
        case measure => simp [intOf]; omega
      · go_wp2_with fail
        go_ret
        refine ⟨?_, hc.trans hc2⟩
        have : ts.findIdx? (·.2.2) = some k := by
          rw [List.findIdx?_eq_some_iff_getElem]
          exact ⟨hlt, hb, fun j hj => by simp [hno j (by omega) hj]⟩
        simp [fi, this]
    · go_wp2_with fail
      go_ret
      refine ⟨?_, hc⟩
      have : ts.findIdx? (·.2.2) = none := by
        rw [List.findIdx?_eq_none_iff]
        intro x hx
        obtain ⟨j, hj, rfl⟩ := List.getElem_of_mem hx
        exact hno j hj (by omega)
      simp [fi, this]

theorem fi_le (ts : List (ByteArray × Int × Bool)) : -1 ≤ fi ts ∧ fi ts < ts.length := by
  unfold fi
  cases h : ts.findIdx? (·.2.2) with
  | none => simp only; omega
  | some i => obtain ⟨hi, _⟩ := List.findIdx?_eq_some_iff_getElem.1 h; simp only; omega

def earlyB (ts : List (ByteArray × Int × Bool)) : Bool := ts.dropLast.any (·.2.2)

theorem early_eq (ts : List (ByteArray × Int × Bool)) : (decide (0 ≤ fi ts) && decide (fi ts < (ts.length : Int) - 1)) = earlyB ts := by
  rw [Bool.eq_iff_iff]
  simp only [Bool.and_eq_true, decide_eq_true_eq, earlyB, List.any_eq_true]
  unfold fi
  cases h : ts.findIdx? (·.2.2) with
  | none =>
    rw [List.findIdx?_eq_none_iff] at h
    simp only
    refine ⟨fun h => absurd h.1 (by omega), fun ⟨x, hx, hx2⟩ => ?_⟩
    have := h x (List.dropLast_subset _ hx)
    rw [this] at hx2; cases hx2
  | some i =>
    obtain ⟨hi, hb, hno⟩ := List.findIdx?_eq_some_iff_getElem.1 h
    simp only
    refine ⟨fun h => ⟨ts[i], ?_, hb⟩, fun ⟨x, hx, hx2⟩ => ⟨by omega, ?_⟩⟩
    · exact List.mem_iff_getElem.2 ⟨i, by simp; omega, by simp⟩
    · obtain ⟨j, hj, rfl⟩ := List.getElem_of_mem hx
      rw [List.length_dropLast] at hj
      rw [List.getElem_dropLast] at hx2
      by_cases hji : j < i
      · exact absurd hx2 (hno j hji)
      · omega

set_option maxHeartbeats 400000 in
theorem early_any {w : World} {v : Value} {ts : List (ByteArray × Int × Bool)} (h : Has w 3 v ts.length (tcs ts)) :
    Calls Try.prog 16 #[v] w fun e w' => e = .returned (.bool (earlyB ts)) ∧ Chg w w' (fun _ => False) := by
  obtain ⟨a, c, hv, hl, hm⟩ := h.slice
  unfold maxLen at hm
  have hf := fi_le ts
  have he := Lib.hid (early_eq ts)
  have hi := index_any h
  rw [hv] at hi
  rw [hv]
  generalize fi ts = f at *
  go_enter Try.func16, Try.ntmps16
  go_wp2_with fail
  refine hi.mono ?_; rintro e w2 ⟨rfl, hc2⟩
  clear hi
  by_cases h0 : 0 ≤ f
  · have hd : decide (0 ≤ f) = true := by simpa using h0
    go_wp2_with fail
    go_ret
    exact ⟨by rw [← he.out]; simp [hd], hc2⟩
  · have hd : decide (0 ≤ f) = false := by simpa using h0
    go_wp2_with fail
    go_ret
    exact ⟨by rw [← he.out]; simp [hd], hc2⟩
end Go.Proofs.Ythncigahodannaa
