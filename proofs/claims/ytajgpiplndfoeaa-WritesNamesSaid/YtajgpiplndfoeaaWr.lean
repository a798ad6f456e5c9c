/- rules: what they write. -/
import Derived.Test.YtajgpiplndfoeaaFold2
namespace Go.Proofs.Ytajgpiplndfoeaa
open Go.RowKit

/-- a rule as a value, and as cells. -/
structure Rv where
  side : Int
  gk : Int
  gn : ByteArray
  gv : ByteArray
  kind : Int
  name : ByteArray
  to : ByteArray
  parts : Value
def Rv.v (r : Rv) : Value := .agg #[.int .i64 r.side, .int .i64 r.gk, .string r.gn, .string r.gv, .int .i64 r.kind, .string r.name, .string r.to, r.parts]
def Rv.cells (r : Rv) : List Value := [.int .i64 r.side, .int .i64 r.gk, .string r.gn, .string r.gv, .int .i64 r.kind, .string r.name, .string r.to, r.parts]
def Rv.rl (r : Rv) : Rl := ⟨r.side, r.kind, r.name, r.to⟩

theorem infoStr : (Try.prog.info? 9).map (fun i => (i.zero, i.size, i.bytes)) = some (some (.string .empty), 1, 16) := by kernel_rfl

set_option maxHeartbeats 400000 in
theorem rWrites_any (r : Rv) (hn : r.name.size ≤ maxLen) (ht : r.to.size ≤ maxLen) (w : World) :
    Calls Try.prog 10 #[r.v] w fun e w' => ∃ a c, e = .returned (.slice a (rlNames r.rl).length c) ∧ Own w' w.heap.size 1 (.slice a (rlNames r.rl).length c) (rlNames r.rl).length ((rlNames r.rl).map .string) ∧ Chg w w' (fun _ => False) := by
  obtain ⟨i0, hi, hz0, hz1, hz2⟩ := info_parts infoStr
  obtain ⟨side, gk, gn, gv, kind, name, to, parts⟩ := r
  simp only at hn ht
  have hF := fun W => fold_any name hn W
  have hF2 := fun W => fold_any to ht W
  unfold Rv.v Rv.rl rlNames
  simp only
  by_cases hk : kind = 4
  · rw [if_pos hk]
    have hk2 : (kind == 4) = true := by simp [hk]
    clear hk
    go_enter Try.func10, Try.ntmps10
    go_wp2_with fail
    refine (hF _).mono ?_; rintro e w1 ⟨rfl, hc⟩
    have hls : w.heap.size < w1.heap.size := by have := hc.size; simp at this; omega
    have hcc : w1.cell? ⟨w.heap.size, 4, none⟩ = some (.int .i64 kind) := hc.cell (cellNew rfl rfl) (fun h => h)
    have hct : w1.cell? ⟨w.heap.size, 6, none⟩ = some (.string to) := hc.cell (cellNew rfl rfl) (fun h => h)
    go_wp2_with fail
    refine (hF2 _).mono ?_; rintro e w2 ⟨rfl, hc2⟩
    have hown : Own w2 w.heap.size 1 (.slice (some ⟨w1.heap.size, 0, none⟩) 1 1) 1 [.string (foldB name)] :=
      (Own.new (w := w1) (base := w.heap.size) (t := 9) (size := 1) (n := 1) (cs := #[.string (foldB name)]) (by omega) rfl (by decide)).chg hc2 (fun _ _ h => h)
    have hls2 : w1.heap.size < w2.heap.size := by have := hc2.size; simp at this; omega
    go_wp2_with (at_builtin; go_must (refine wpList_app _ rfl _ _ 26 26 rfl w.heap.size 9 i0 _ 1 16 Try.underlying26 hi hz0 hz1 hz2 rfl _ 1 [.string (foldB name)] rfl ?own _ 1 [.string (foldB to)] rfl ?src ?c1 ?c2 ?c3 ?_))
    case own => exact hown.chg (S := fun _ => False) (by repeat (first | exact Chg.refl _ _ | assumption | refine Chg.setCell ?_ (.inl (by first | (simp; done) | (simp; omega) | omega)) _ | refine Chg.drewN ?_ _ | refine Chg.drew ?_ | refine Chg.alloc ?_ _)) (fun _ _ h => h)
    case src => exact ((Own.new (w := w2) (base := 0) (t := 9) (size := 1) (n := 1) (cs := #[.string (foldB to)]) (Nat.zero_le _) rfl (by decide)).chg (S := fun _ => False) (by repeat (first | exact Chg.refl _ _ | assumption | refine Chg.setCell ?_ (.inl (by first | (simp; done) | (simp; omega) | omega)) _ | refine Chg.drewN ?_ _ | refine Chg.drew ?_ | refine Chg.alloc ?_ _)) (fun _ _ h => h)).has.src Try.underlying26 (by simp; try rfl)
    case c1 => unfold maxLen; omega
    case c2 => omega
    case c3 => simp; omega
    intro a2 c2 w3 hown3 hchg3 hat3
    go_wp2_with fail
    go_ret
    refine ⟨a2, c2, rfl, hown3, ?_⟩
    refine Chg.next (w' := w2.alloc (.cells #[.string (foldB to)] 9)) (T := fun _ => False) ?_ hchg3 (fun i hi e => by simp [Value.ownBlock] at e; omega)
    exact ((((Chg.refl w _).alloc _).trans hc).alloc _ |>.trans hc2).alloc _
  · rw [if_neg hk]
    have hk2 : (kind == 4) = false := by simp [hk]
    clear hk
    go_enter Try.func10, Try.ntmps10
    go_wp2_with fail
    refine (hF _).mono ?_; rintro e w1 ⟨rfl, hc⟩
    have hls : w.heap.size < w1.heap.size := by have := hc.size; simp at this; omega
    have hcc : w1.cell? ⟨w.heap.size, 4, none⟩ = some (.int .i64 kind) := hc.cell (cellNew rfl rfl) (fun h => h)
    go_wp2_with fail
    go_ret
    refine ⟨_, _, rfl, Own.new (by omega) rfl (by decide), ?_⟩
    exact ((((Chg.refl w _).alloc _).trans hc).alloc _)
end Go.Proofs.Ytajgpiplndfoeaa
