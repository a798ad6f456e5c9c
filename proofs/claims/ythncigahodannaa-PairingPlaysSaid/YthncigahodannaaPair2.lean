/- pairing: contracts of the queue, more. -/
import Derived.Test.YthncigahodannaaPair
namespace Go.Proofs.Ythncigahodannaa
open Go.RowKit

theorem tcs_append (a b : List (ByteArray × Int × Bool)) : tcs (a ++ b) = tcs a ++ tcs b := by simp [tcs]
theorem tcs_one (ts : List (ByteArray × Int × Bool)) : ∀ u ∈ tcs ts, u.oneCell' = true := by
  intro u hu
  simp only [tcs, List.mem_flatMap, tkc] at hu
  obtain ⟨t, _, hu⟩ := hu
  simp at hu
  rcases hu with rfl | rfl | rfl <;> rfl

theorem infoTicket : (Try.prog.info? 35).map (fun i => (i.zero, i.size, i.bytes)) = some (some (.agg #[.string .empty, .int .i64 0, .bool false]), 3, 32) := by kernel_rfl

set_option maxHeartbeats 400000 in
theorem put_any {w : World} {base qb : Nat} {v v2 : Value} {ts us : List (ByteArray × Int × Bool)} {most : Int} {last : Bool} (h : Qat w base qb v ts most last) (h2 : Has w 3 v2 us.length (tcs us)) (hl : ts.length + us.length ≤ 1000) :
    Calls Try.prog 17 #[.pointer (some ⟨qb, 0, none⟩), v2] w fun e w' => e = .returned (.tuple #[]) ∧ Chg w w' (fun k => k = qb ∨ v.ownBlock = some k) ∧ ∃ v', Qat w' base qb v' (ts ++ us) most last ∧ (v'.ownBlock = v.ownBlock ∨ ∃ g, v'.ownBlock = some g ∧ w.heap.size ≤ g) := by
  obtain ⟨i0, hi, hz0, hz1, hz2⟩ := info_parts infoTicket
  have hq := h.lt
  have h0 := h.c0
  have hf := h.fr 0
  have hb := h.ge
  have hs : Src Try.prog 3 33 v2 us.length (tcs us) w := h2.src Try.underlying33 (tcs_one us)
  have hown := h.own
  go_enter Try.func17, Try.ntmps17
  go_wp2_with (at_builtin; refine wpList_app _ rfl _ _ 33 33 rfl base 35 i0 _ 3 32 Try.underlying33 hi hz0 hz1 hz2 rfl v ts.length (tcs ts) rfl hown v2 us.length (tcs us) rfl hs ?c1 ?c2 ?c3 ?_)
  case c1 => unfold maxLen; omega
  case c2 => omega
  case c3 => omega
  intro a' c' w1 hown1 hchg hat
  have hne : ∀ k, (Value.slice a' (ts.length + us.length) c').ownBlock = some k → k ≠ qb := fun k hk e => by
    subst e
    rcases hat with ha | ha
    · exact h.ne (ha ▸ hk)
    · rw [ha] at hk; cases hk; omega
  have h1 : w1.heap[qb]? = some (.cells #[v, .int .i64 most, .bool last] 45 (0, 0)) := (hchg.block qb hq (fun e => h.ne e)).trans h.blk
  have hc1 : w1.cell? ⟨qb, 0, none⟩ = some v := by rw [cell_of_row w1 qb 0 _ _ _ h1]; rfl
  have hf1 : w1.frozen? ⟨qb, 0, none⟩ = false := by simp [World.frozen?, h1]
  clear hs h0 hf
  go_wp2_with fail
  go_end0
  refine ⟨rfl, ?_, _, ⟨hb, by rw [heap_set h1]; rfl, ?_, fun e => hne _ e rfl⟩, ?_⟩
  · exact (hchg.mono (fun k _ e => .inr e)).setCell (.inr (.inl rfl)) _
  · rw [tcs_append, List.length_append]
    refine hown1.chg ((Chg.refl w1 (fun k => k = qb)).setCell (.inr rfl) _) (fun g hg e => hne g hg e)
  · rcases hat with ha | ha
    · exact .inl ha
    · exact .inr ⟨_, ha, Nat.le_refl _⟩

set_option maxHeartbeats 400000 in
theorem new_bad {w : World} {most : Int} (h : most < 1 ∨ 64 < most) :
    Calls Try.prog 5 #[.int .i64 most] w fun e w' => e = .returned (.tuple #[.pointer none, .int .i64 1]) ∧ w = w' := by
  rcases h with h | h
  · go_enter Try.func5, Try.ntmps5
    go_wp2_with fail
    go_ret2
    exact ⟨rfl, rfl⟩
  · have h' : ¬ most < 1 := by omega
    go_enter Try.func5, Try.ntmps5
    go_wp2_with fail
    go_ret2
    exact ⟨rfl, rfl⟩

set_option maxHeartbeats 400000 in
theorem new_good {w : World} {most : Int} (h : 1 ≤ most) (h2 : most ≤ 64) :
    Calls Try.prog 5 #[.int .i64 most] w fun e w' => e = .returned (.tuple #[.pointer (some ⟨w.heap.size, 0, none⟩), .int .i64 0]) ∧ w' = w.alloc (.cells #[.slice none 0 0, .int .i64 most, .bool false] 45) := by
  have h' : ¬ most < 1 := by omega
  have h'' : ¬ 64 < most := by omega
  go_enter Try.func5, Try.ntmps5
  go_wp2_with fail
  go_ret2
  exact ⟨rfl, rfl⟩

theorem Qat.new (w : World) (base : Nat) (hb : base ≤ w.heap.size) (most : Int) : Qat (w.alloc (.cells #[.slice none 0 0, .int .i64 most, .bool false] 45)) base w.heap.size (.slice none 0 0) [] most false :=
  ⟨hb, heap_alloc_new w _, Own.nil _ _ _, by simp [Value.ownBlock]⟩

set_option maxHeartbeats 400000 in
theorem front_none {w : World} {base qb : Nat} {v : Value} {most : Int} {last : Bool} (h : Qat w base qb v [] most last) :
    Calls Try.prog 9 #[.pointer (some ⟨qb, 0, none⟩)] w fun e w' => e = .returned (.tuple #[.agg #[.string .empty, .int .i64 0, .bool false], .bool false]) ∧ Chg w w' (fun _ => False) := by
  have h' := h.chg ((Chg.refl w (fun _ => False)).alloc (.cells #[.string .empty, .int .i64 0, .bool false] 35)) (fun h => h) (fun _ _ h => h)
  go_enter Try.func9, Try.ntmps9
  go_wp2_with fail
  refine (first_none h').mono ?_; rintro e w1 ⟨rfl, hc⟩
  have hz := hc.size
  simp at hz
  have hx : w1.heap[w.heap.size]? = some (.cells #[.string .empty, .int .i64 0, .bool false] 35) := (hc.block _ (by simp) (fun h => h)).trans (heap_alloc_new w _)
  have hl : w.heap.size < w1.heap.size := by omega
  have x0 : w1.cell? ⟨w.heap.size, 0, none⟩ = some (.string .empty) := by rw [cell_of_row w1 _ 0 _ _ _ hx]; rfl
  have x1 : w1.cell? ⟨w.heap.size, 1, none⟩ = some (.int .i64 0) := by rw [cell_of_row w1 _ 1 _ _ _ hx]; rfl
  have x2 : w1.cell? ⟨w.heap.size, 2, none⟩ = some (.bool false) := by rw [cell_of_row w1 _ 2 _ _ _ hx]; rfl
  have xf : ∀ j, w1.frozen? ⟨w.heap.size, j, none⟩ = false := fun j => by simp [World.frozen?, hx]
  clear h hz hx
  go_wp2_with fail
  exact bodyPost_ret (v := .tuple #[.agg #[.string .empty, .int .i64 0, .bool false], .bool false]) (by simp [results, Try.results9, go_sem, x0, x1, x2]; try rfl) rfl ⟨rfl, by
    repeat (refine Chg.setCell ?_ (.inl (by simp)) _)
    exact ((Chg.refl w (fun _ => False)).alloc _).trans hc⟩

set_option maxHeartbeats 400000 in
theorem front_some {w : World} {base qb : Nat} {v : Value} {t : ByteArray × Int × Bool} {r : List (ByteArray × Int × Bool)} {most : Int} {last : Bool} (h : Qat w base qb v (t :: r) most last) :
    Calls Try.prog 9 #[.pointer (some ⟨qb, 0, none⟩)] w fun e w' => e = .returned (.tuple #[.agg #[.string t.1, .int .i64 t.2.1, .bool t.2.2], .bool true]) ∧ Chg w w' (fun _ => False) := by
  have h' := h.chg ((Chg.refl w (fun _ => False)).alloc (.cells #[.string .empty, .int .i64 0, .bool false] 35)) (fun h => h) (fun _ _ h => h)
  go_enter Try.func9, Try.ntmps9
  go_wp2_with fail
  refine (first_some h').mono ?_; rintro e w1 ⟨rfl, hc⟩
  have hz := hc.size
  simp at hz
  have hx : w1.heap[w.heap.size]? = some (.cells #[.string .empty, .int .i64 0, .bool false] 35) := (hc.block _ (by simp) (fun h => h)).trans (heap_alloc_new w _)
  have hl : w.heap.size < w1.heap.size := by omega
  have x0 : w1.cell? ⟨w.heap.size, 0, none⟩ = some (.string .empty) := by rw [cell_of_row w1 _ 0 _ _ _ hx]; rfl
  have x1 : w1.cell? ⟨w.heap.size, 1, none⟩ = some (.int .i64 0) := by rw [cell_of_row w1 _ 1 _ _ _ hx]; rfl
  have x2 : w1.cell? ⟨w.heap.size, 2, none⟩ = some (.bool false) := by rw [cell_of_row w1 _ 2 _ _ _ hx]; rfl
  have xf : ∀ j, w1.frozen? ⟨w.heap.size, j, none⟩ = false := fun j => by simp [World.frozen?, hx]
  clear h hz hx
  go_wp2_with fail
  exact bodyPost_ret (v := .tuple #[.agg #[.string t.1, .int .i64 t.2.1, .bool t.2.2], .bool true]) (by simp [results, Try.results9, go_sem, x0, x1, x2]; try rfl) rfl ⟨rfl, by
    repeat (refine Chg.setCell ?_ (.inl (by simp)) _)
    exact ((Chg.refl w (fun _ => False)).alloc _).trans hc⟩

set_option maxHeartbeats 400000 in
theorem len_any {w : World} {base qb : Nat} {v : Value} {ts : List (ByteArray × Int × Bool)} {most : Int} {last : Bool} (h : Qat w base qb v ts most last) :
    Calls Try.prog 10 #[.pointer (some ⟨qb, 0, none⟩)] w fun e w' => e = .returned (.int .i64 ts.length) ∧ w = w' := by
  obtain ⟨a, c, hv, _, _⟩ := h.own.has.slice
  have h0 := h.c0
  rw [hv] at h0
  go_enter Try.func10, Try.ntmps10
  go_wp2
  go_ret
  exact ⟨rfl, rfl⟩

set_option maxHeartbeats 400000 in
theorem full_any {w : World} {base qb : Nat} {v : Value} {ts : List (ByteArray × Int × Bool)} {most : Int} {last : Bool} (h : Qat w base qb v ts most last) (hm : 0 ≤ most) (hm2 : most ≤ 64) (hn : ts.length ≤ 64) :
    Calls Try.prog 11 #[.pointer (some ⟨qb, 0, none⟩)] w fun e w' => e = .returned (.bool (most - ts.length == 0)) ∧ ∃ k, w' = w.drewN k := by
  go_enter Try.func11, Try.ntmps11
  go_wp2_with (refine (room_any h hm hm2 hn).mono ?_; rintro e w1 ⟨rfl, n, rfl⟩)
  go_ret
  exact ⟨rfl, _, rfl⟩

set_option maxHeartbeats 400000 in
theorem last_any {w : World} {base qb : Nat} {v : Value} {ts : List (ByteArray × Int × Bool)} {most : Int} {last : Bool} (h : Qat w base qb v ts most last) :
    Calls Try.prog 12 #[.pointer (some ⟨qb, 0, none⟩)] w fun e w' => e = .returned (.bool last) ∧ w = w' := by
  have h2 := h.c2
  go_enter Try.func12, Try.ntmps12
  go_wp2
  go_ret
  exact ⟨rfl, rfl⟩

set_option maxHeartbeats 400000 in
theorem pop_none {w : World} {base qb : Nat} {v : Value} {most : Int} {last : Bool} (h : Qat w base qb v [] most last) :
    Calls Try.prog 6 #[.pointer (some ⟨qb, 0, none⟩)] w fun e w' => e = .returned (.bool false) ∧ Chg w w' (fun _ => False) := by
  go_enter Try.func6, Try.ntmps6
  go_wp2_with (refine (drop_none h).mono ?_; rintro e w1 ⟨rfl, hc⟩)
  go_ret
  exact ⟨rfl, hc⟩

set_option maxHeartbeats 400000 in
theorem pop_some {w : World} {base qb : Nat} {v : Value} {t : ByteArray × Int × Bool} {r : List (ByteArray × Int × Bool)} {most : Int} {last : Bool} (h : Qat w base qb v (t :: r) most last) :
    Calls Try.prog 6 #[.pointer (some ⟨qb, 0, none⟩)] w fun e w' => e = .returned (.bool true) ∧ Chg w w' (fun k => k = qb) ∧ ∃ v', Qat w' base qb v' r most last ∧ v'.ownBlock = v.ownBlock := by
  go_enter Try.func6, Try.ntmps6
  go_wp2_with (refine (drop_some h).mono ?_; rintro e w1 ⟨rfl, hc, v', hq, hv⟩)
  go_ret
  exact ⟨rfl, hc, v', hq, hv⟩
end Go.Proofs.Ythncigahodannaa
