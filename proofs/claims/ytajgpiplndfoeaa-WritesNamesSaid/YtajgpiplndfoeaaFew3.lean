/- the laws' own cut of rules. -/
import Derived.Test.YtajgpiplndfoeaaFew2
namespace Go.Proofs.Ytajgpiplndfoeaa
open Go.RowKit

def cutRl (r : Rl) : Rl := ⟨r.side, r.kind, cutB 60 r.name, cutB 60 r.to⟩
/-- the rules of a slice are as the calls need them. -/
structure Rv.Ok (w : World) (r : Rv) : Prop where
  h1 : r.name.size ≤ maxLen
  h2 : r.to.size ≤ maxLen
  h3 : r.gn.size ≤ maxLen
  h4 : r.gv.size ≤ maxLen
  hp : ∃ ps : List (Int × ByteArray), Has w 2 r.parts ps.length (ps.flatMap pcells) ∧ ∀ p ∈ ps, p.2.size ≤ maxLen
theorem Rv.Ok.chg {w w' : World} {r : Rv} (h : r.Ok w) (c : Chg w w' (fun _ => False)) : r.Ok w' :=
  ⟨h.h1, h.h2, h.h3, h.h4, by obtain ⟨ps, h5, h6⟩ := h.hp; exact ⟨ps, h5.chg c (fun _ _ h => h), h6⟩⟩
theorem infoRule : (Try.prog.info? 35).map (fun i => (i.zero, i.size, i.bytes)) = some (some (.agg #[.int .i64 0, .int .i64 0, .string .empty, .string .empty, .int .i64 0, .string .empty, .string .empty, .slice none 0 0]), 8, 112) := by kernel_rfl

set_option maxHeartbeats 1000000 in
theorem few35_any (v : Value) (rs : List Rv) (w : World) (h : Has w 8 v rs.length (rs.flatMap Rv.cells)) (hok : ∀ r ∈ rs, r.Ok w) :
    Calls Try.prog 5 #[v] w fun e w' => ∃ (rs' : List Rv) (a : Option Addr) (c : Nat), e = .returned (.slice a rs'.length c) ∧ rs'.map Rv.rl = (rs.take 70).map (fun r => cutRl r.rl) ∧ Own w' w.heap.size 8 (.slice a rs'.length c) rs'.length (rs'.flatMap Rv.cells) ∧ Chg w w' (fun _ => False) ∧ (∀ r ∈ rs', ∃ a n c, r.parts = .slice a n c) := by
  obtain ⟨i0, hi, hz0, hz1, hz2⟩ := info_parts infoRule
  obtain ⟨sa, sc, rfl, hcl, hcm⟩ := h.slice
  unfold maxLen at hcm
  go_enter Try.func5, Try.ntmps5
  go_wp2_with fail
  go_loopg [3, 4] rs.length (fun g s3 s4 wr => ∃ (k : Nat) (rs' : List Rv) (a : Option Addr) (c : Nat), k + g = rs.length ∧ k ≤ 70 ∧ rs'.length = k ∧ s4 = .int .i64 k ∧ s3 = .slice a k c ∧ rs'.map Rv.rl = (rs.take k).map (fun r => cutRl r.rl) ∧ Own wr w.heap.size 8 (.slice a k c) k (rs'.flatMap Rv.cells) ∧ Chg w wr (fun _ => False) ∧ (∀ r ∈ rs', ∃ a n c, r.parts = .slice a n c))
  case atStart => exact ⟨0, [], none, 0, by omega, by omega, rfl, rfl, rfl, rfl, Own.nil _ _ _, Chg.refl _ _, by simp⟩
  case round =>
    obtain ⟨k, rs', a, c, hk, hk40, hlen, rfl, rfl, hmap, hown, hC, hone⟩ := hrel
    by_cases hlt : k < rs.length
    · by_cases h40 : k < 70
      · obtain ⟨g3, o3, cap3, hv3, _, _, hat⟩ := h.atF (fun _ => rfl) (by omega)
        obtain ⟨rfl, rfl⟩ : sa = some ⟨g3, o3, none⟩ ∧ sc = cap3 := by simpa using hv3
        have hR := (hok rs[k] (List.getElem_mem hlt)).chg hC
        have ht : rs.take (k + 1) = rs.take k ++ [rs[k]] := by rw [List.take_succ_eq_append_getElem hlt]
        have HT := Lib.hid ht
        have HM := Lib.hid hmap
        have h0 := hC.cell (hat k hlt 0 (by omega)) (fun h => h)
        have h1 := hC.cell (hat k hlt 1 (by omega)) (fun h => h)
        have h2 := hC.cell (hat k hlt 2 (by omega)) (fun h => h)
        have h3 := hC.cell (hat k hlt 3 (by omega)) (fun h => h)
        have h4 := hC.cell (hat k hlt 4 (by omega)) (fun h => h)
        have h5 := hC.cell (hat k hlt 5 (by omega)) (fun h => h)
        have h6 := hC.cell (hat k hlt 6 (by omega)) (fun h => h)
        have h7 := hC.cell (hat k hlt 7 (by omega)) (fun h => h)
        clear ht hat hv3 hmap
        generalize rs[k] = r at *
        replace h0 : wr.cell? ⟨g3, o3 + k * 8, none⟩ = some (.int .i64 r.side) := h0
        replace h1 : wr.cell? ⟨g3, o3 + k * 8 + 1, none⟩ = some (.int .i64 r.gk) := h1
        replace h2 : wr.cell? ⟨g3, o3 + k * 8 + 2, none⟩ = some (.string r.gn) := h2
        replace h3 : wr.cell? ⟨g3, o3 + k * 8 + 3, none⟩ = some (.string r.gv) := h3
        replace h4 : wr.cell? ⟨g3, o3 + k * 8 + 4, none⟩ = some (.int .i64 r.kind) := h4
        replace h5 : wr.cell? ⟨g3, o3 + k * 8 + 5, none⟩ = some (.string r.name) := h5
        replace h6 : wr.cell? ⟨g3, o3 + k * 8 + 6, none⟩ = some (.string r.to) := h6
        replace h7 : wr.cell? ⟨g3, o3 + k * 8 + 7, none⟩ = some r.parts := h7
        obtain ⟨ps, hp1, hp2⟩ := hR.hp
        have hF := few32_any r ps wr hp1 hp2 hR.h1 hR.h2 hR.h3 hR.h4
        unfold Rv.v at hF
        obtain ⟨gn2, Hgn⟩ : ∃ x, Hid (cutB 60 r.gn = x) := ⟨_, Lib.hid rfl⟩
        obtain ⟨gv2, Hgv⟩ : ∃ x, Hid (cutB 60 r.gv = x) := ⟨_, Lib.hid rfl⟩
        obtain ⟨nm2, Hnm⟩ : ∃ x, Hid (cutB 60 r.name = x) := ⟨_, Lib.hid rfl⟩
        obtain ⟨to2, Hto⟩ : ∃ x, Hid (cutB 60 r.to = x) := ⟨_, Lib.hid rfl⟩
        simp only [Hgn.out, Hgv.out, Hnm.out, Hto.out] at hF
        go_wp2_with fail
        refine hF.mono ?_; rintro e w1 ⟨pa, pc, rfl, hownp, hc1⟩
        clear h0 h1 h2 h3 h4 h5 h6 h7 hF
        have hown1 := hown.chg hc1 (fun _ _ h => h)
        have hsz1 := hc1.size
        have hsz2 := hC.size
        go_wp2_with (at_builtin; go_must (refine wpList_app _ rfl _ _ 23 23 rfl w.heap.size 35 i0 _ 8 112 Try.underlying23 hi hz0 hz1 hz2 rfl _ k (rs'.flatMap Rv.cells) rfl ?own _ 1 [.int .i64 r.side, .int .i64 r.gk, .string gn2, .string gv2, .int .i64 r.kind, .string nm2, .string to2, .slice pa (min ps.length 40) pc] rfl ?src ?c1 ?c2 ?c3 ?_))
        case own => exact hown1.chg (S := fun _ => False) (by repeat (first | exact Chg.refl _ _ | assumption | refine Chg.setCell ?_ (.inl (by first | (simp; done) | (simp; omega) | omega)) _ | refine Chg.drewN ?_ _ | refine Chg.drew ?_ | refine Chg.alloc ?_ _)) (fun _ _ h => h)
        case src => exact ((Own.new (w := w1) (base := 0) (t := 35) (size := 8) (n := 1) (cs := #[.int .i64 r.side, .int .i64 r.gk, .string gn2, .string gv2, .int .i64 r.kind, .string nm2, .string to2, .slice pa (min ps.length 40) pc]) (Nat.zero_le _) rfl (by decide)).chg (S := fun _ => False) (by repeat (first | exact Chg.refl _ _ | assumption | refine Chg.setCell ?_ (.inl (by first | (simp; done) | (simp; omega) | omega)) _ | refine Chg.drewN ?_ _ | refine Chg.drew ?_ | refine Chg.alloc ?_ _)) (fun _ _ h => h)).has.src Try.underlying23 (by simp; try (refine ⟨rfl, rfl, rfl, rfl, rfl, rfl, rfl, rfl⟩))
        case c1 => unfold maxLen; omega
        case c2 => omega
        case c3 => simp; omega
        intro a2 c2 w2 hown2 hchg2 hat2
        go_wp2_with fail
        have hlo := hown.lt
        go_roundg (gk - 1)
        case measure => omega
        case rel =>
          refine ⟨k + 1, rs' ++ [⟨r.side, r.gk, gn2, gv2, r.kind, nm2, to2, .slice pa (min ps.length 40) pc⟩], a2, c2, by omega, by omega, by simp [hlen], by go_num, rfl, ?_, ?_, ?_, ?_⟩
          · rw [HT.out, List.map_append, List.map_append, HM.out]
            simp [Rv.rl, cutRl, Hnm.out, Hto.out]
          · rw [List.flatMap_append]
            simpa [Rv.cells] using hown2
          · refine Chg.next (w' := w1.alloc (Obj.cells #[.int .i64 r.side, .int .i64 r.gk, .string gn2, .string gv2, .int .i64 r.kind, .string nm2, .string to2, .slice pa (min ps.length 40) pc] 35)) ((hC.trans hc1).alloc _) hchg2 (fun i hi e => by have := (hlo i e).1; omega)
          · intro x hx
            rcases List.mem_append.1 hx with hx | hx
            · exact hone x hx
            · rw [List.mem_singleton.1 hx]; exact ⟨_, _, _, rfl⟩
      · obtain rfl : k = 70 := by omega
        go_wp2_with fail
        go_ret
        exact ⟨rs', a, c, by rw [hlen]; rfl, hmap, by rw [hlen]; exact hown, hC, hone⟩
    · go_wp2_with fail
      go_ret
      have et : rs.take 70 = rs.take k := by rw [List.take_of_length_le (by omega), List.take_of_length_le (by omega)]
      rw [et]
      exact ⟨rs', a, c, by rw [hlen]; rfl, hmap, by rw [hlen]; exact hown, hC, hone⟩
end Go.Proofs.Ytajgpiplndfoeaa
