/- PairingPlays: the law's walk. -/
import Derived.Test.YthncigahodannaaPair5
import Derived.Deep.LoopGhost
import Derived.Deep.CutRange
namespace Go.Proofs.Ythncigahodannaa
open Go.RowKit

/-- what the law is handed: deeds -/
def DeedsAt (w : World) (lv : Value) (dd : List (List Bool)) : Prop :=
  ∃ dv : List Value, Has w 1 lv dd.length dv ∧ ∀ i (h : i < dd.length), ∃ v, dv[i]? = some v ∧ Has w 1 v dd[i].length (bcs dd[i])

theorem DeedsAt.at1 {w : World} {lv : Value} {dd : List (List Bool)} (h : DeedsAt w lv dd) (hp : 0 < dd.length) :
    ∃ g o cap, lv = .slice (some ⟨g, o, none⟩) dd.length cap ∧ dd.length ≤ cap ∧ cap ≤ maxLen ∧ g < w.heap.size ∧ ∀ k (hk : k < dd.length), ∃ a c, w.cell? ⟨g, o + k, none⟩ = some (.slice a dd[k].length c) ∧ dd[k].length ≤ c ∧ c ≤ maxLen ∧ Has w 1 (.slice a dd[k].length c) dd[k].length (bcs dd[k]) := by
  obtain ⟨dv, h1, h2⟩ := h
  rcases h1.is with ⟨h0, _⟩ | ⟨g, o, cap, hv, hn, hm, hc⟩
  · omega
  · have all : ∀ k (hk : k < dd.length), ∃ a c, w.cell? ⟨g, o + k, none⟩ = some (.slice a dd[k].length c) ∧ dd[k].length ≤ c ∧ c ≤ maxLen ∧ Has w 1 (.slice a dd[k].length c) dd[k].length (bcs dd[k]) := fun k hk => by
      obtain ⟨v, hv1, hv2⟩ := h2 k hk
      obtain ⟨a, c, rfl, hl, hm⟩ := hv2.slice
      exact ⟨a, c, by rw [hc k (by omega), hv1], hl, hm, hv2⟩
    obtain ⟨_, _, h0, _⟩ := all 0 hp
    exact ⟨g, o, cap, hv, hn, hm, World.block_lt_of_cell? _ _ h0, all⟩

theorem Has.takeB {w : World} {a : Option Addr} {c m : Nat} {l : List Bool} (h : Has w 1 (.slice a l.length c) l.length (bcs l)) (hm : m ≤ l.length) : Has w 1 (.slice a m c) m (bcs (l.take m)) := by
  refine ⟨by simp [bcs]; omega, ?_⟩
  rcases h.is with ⟨h0, a', c', hv, hx⟩ | ⟨g, o, cap, hv, hn, hx, hc⟩
  · simp only [Value.slice.injEq] at hv
    obtain ⟨rfl, hl0, rfl⟩ := hv
    obtain rfl : m = 0 := by omega
    exact .inl ⟨rfl, _, _, rfl, hx⟩
  · cases hv
    refine .inr ⟨g, o, c, rfl, by omega, hx, fun j hj => ?_⟩
    rw [hc j (by omega)]
    simp only [bcs, List.map_take]
    rw [List.getElem?_take_of_lt (by omega)]

def Inv (w : World) (qb lb : Nat) (most : Int) (k : Nat) (wx : World) : Prop :=
  ∃ (v cv : Value) (cs : List Bool) (gone : Nat), Qat wx w.heap.size qb v (tk gone (cs.drop gone)) most (lastb cs) ∧ Lat wx w.heap.size lb cv cs gone most ∧ qb ≠ lb ∧
    (∀ g, v.ownBlock = some g → g ≠ lb ∧ cv.ownBlock ≠ some g) ∧ (∀ g, cv.ownBlock = some g → g ≠ qb) ∧ gone ≤ cs.length ∧ (cs.length : Int) ≤ gone + most ∧ cs.length ≤ 70 * k ∧ Chg w wx (fun _ => False)

set_option maxRecDepth 100000 in
set_option maxHeartbeats 1000000 in
theorem plays_bad (most : Int) (lv : Value) (w : World) (h : most < 1 ∨ 64 < most) :
    Calls Try.prog 3 #[.int .i64 most, lv] w fun e w' => e = .returned (.bool true) ∧ Chg w w' (fun _ => False) := by
  rcases h with h | h
  · go_enter Try.func3, Try.ntmps3
    go_wp2_with fail
    refine (awake_any w).mono ?_; rintro e w1 ⟨rfl, hc⟩
    go_wp2_with fail
    refine (new_bad (.inl h)).mono ?_; rintro e w2 ⟨rfl, rfl⟩
    go_wp2_with fail
    go_ret
    exact ⟨rfl, hc⟩
  · have h' : ¬ most < 1 := by omega
    go_enter Try.func3, Try.ntmps3
    go_wp2_with fail
    refine (awake_any w).mono ?_; rintro e w1 ⟨rfl, hc⟩
    go_wp2_with fail
    refine (new_bad (.inr h)).mono ?_; rintro e w2 ⟨rfl, rfl⟩
    go_wp2_with fail
    go_ret
    exact ⟨rfl, hc⟩

theorem infoT3 : (Try.prog.info? 35).map (fun i => (i.zero, i.size, i.bytes)) = some (some (.agg #[.string .empty, .int .i64 0, .bool false]), 3, 32) := by kernel_rfl

set_option maxRecDepth 100000 in
set_option maxHeartbeats 4000000 in
theorem plays_good (most : Int) (lv : Value) (dd : List (List Bool)) (w : World) (hd : DeedsAt w lv dd) (h1 : 1 ≤ most) (h2 : most ≤ 64) (hlv : ∃ a c, lv = .slice a dd.length c ∧ dd.length ≤ c ∧ c ≤ maxLen) :
    Calls Try.prog 3 #[.int .i64 most, lv] w fun e w' => e = .returned (.bool true) ∧ Chg w w' (fun _ => False) := by
  obtain ⟨a0, c0, rfl, hlc, hmx⟩ := hlv
  unfold maxLen at hmx
  have hn1 : ¬ most < 1 := by omega
  have hn2 : ¬ 64 < most := by omega
  go_enter Try.func3, Try.ntmps3
  go_wp2_with fail
  refine (awake_any w).mono ?_; rintro e w1 ⟨rfl, hc⟩
  go_wp2_with fail
  refine (new_good h1 h2).mono ?_; rintro e w2 ⟨rfl, he⟩
  have hQ := Qat.new w1 w.heap.size hc.size most
  rw [← he] at hQ
  have hc2 : Chg w w2 (fun _ => False) := by rw [he]; exact hc.alloc _
  have hql := hQ.lt
  clear he hc
  go_wp2_with fail
  generalize w1.heap.size = qb at *
  have hI : Inv w qb w2.heap.size most 0 (w2.alloc (Obj.cells #[.slice none 0 0, .int .i64 0, .int .i64 most] 30)) := by
    refine ⟨_, .slice none 0 0, [], 0, hQ.chg ((Chg.refl w2 (fun _ => False)).alloc _) (fun h => h) (fun _ _ h => h), ⟨hc2.size, heap_alloc_new w2 _, Has.nil _ _, fun g hg => by simp [Value.ownBlock] at hg⟩, by omega, fun g hg => by simp [Value.ownBlock] at hg, fun g hg => by simp [Value.ownBlock] at hg, Nat.le_refl _, by simp; omega, by simp, hc2.alloc _⟩
  generalize w2.alloc (Obj.cells #[.slice none 0 0, .int .i64 0, .int .i64 most] 30) = w3 at *
  generalize w2.heap.size = lb at *
  clear hQ hql hc2
  go_loopg [8] dd.length (fun g s8 wr => ∃ k : Nat, k + g = dd.length ∧ k ≤ 60 ∧ s8 = .int .i64 k ∧ Inv w qb lb most k wr)
  case atStart => exact ⟨0, by omega, by omega, rfl, hI⟩
  case round =>
    clear hI
    obtain ⟨k, hkg, hk60, rfl, hI⟩ := hrel
    by_cases hlt : k < dd.length
    · by_cases h60 : k < 60
      · obtain ⟨v, cv, cs, gone, hQ, hL, hql, hd1, hd2, hg, hgm, h70, hcw⟩ := hI
        obtain ⟨g, o, cap, hvs, _, _, hgl, hat⟩ := hd.at1 (by omega)
        obtain ⟨rfl, rfl⟩ : a0 = some ⟨g, o, none⟩ ∧ c0 = cap := by simpa using hvs
        obtain ⟨a, c, hcell, hlc2, hmx2, hB⟩ := hat k hlt
        have hcell2 := hcw.cell hcell (fun h => h)
        have hB2 := hB
        clear hat hB hcell hvs
        generalize dd[k] = d at *
        unfold maxLen at hmx2
        go_upto_region 13 with fail
        go_cut [9] (fun s9 wx => wr = wx ∧ ∃ a c, s9 = .slice a (d.take 70).length c ∧ (d.take 70).length ≤ c ∧ c ≤ maxLen ∧ Has w 1 s9 (d.take 70).length (bcs (d.take 70)))
        case first =>
          by_cases h7 : d.length ≤ 70
          · have ht : d.take 70 = d := List.take_of_length_le h7
            have HT := Lib.hid ht
            clear ht
            go_wp2_with fail
            go_meet
            case rel => rw [HT.out]; exact ⟨rfl, a, c, rfl, hlc2, by unfold maxLen; omega, hB2⟩
          · have h7' : 70 < d.length := by omega
            have hl : (d.take 70).length = 70 := by rw [List.length_take]; omega
            have HL := Lib.hid hl
            clear h7 hl
            go_wp2_with fail
            go_meet
            case rel => rw [HL.out]; exact ⟨rfl, a, c, rfl, by omega, by unfold maxLen; omega, hB2.takeB (by omega)⟩
        case rest =>
          obtain ⟨rfl, a', c', rfl, hle, hmx3, hB3⟩ := hcut
          have hd70 : (d.take 70).length ≤ 70 := by rw [List.length_take]; omega
          clear hB2 hcell2 hlc2
          generalize d.take 70 = e at *
          unfold maxLen at hmx3
          have hql2 := hQ.lt
          have hll := hL.lt
          go_upto_if 64 with fail
          go_cut [] (fun wx => Inv w qb lb most k wx)
          case first =>
            by_cases he0 : e.length = 0
            · have he1 : e = [] := List.eq_nil_of_length_eq_zero he0
              have hz : ((e.length : Int) == 0) = true := by simp [he0]
              have HE := Lib.hid he1
              clear he0 he1
              have l0 := hL.c0
              have l1 := hL.c1
              obtain ⟨ac, cc, rfl, hcl, hcm⟩ := hL.has.slice
              by_cases hgo : gone < cs.length
              · have hgo' : (gone : Int) < cs.length := by omega
                rw [tk_drop cs gone hgo] at hQ
                go_wp2_with fail
                go_region_held3 (fun w' => w'.cell? ⟨lb, 0, none⟩ = some (.slice ac cs.length cc) ∧ w'.cell? ⟨lb, 1, none⟩ = some (.int .i64 gone)) (first | exact ⟨hcp.cell (a := ⟨lb, 0, none⟩) (by first | assumption | simp [*]) (fun e => hql e.symm), hcp.cell (a := ⟨lb, 1, none⟩) (by first | assumption | simp [*]) (fun e => hql e.symm)⟩ | go_keep)
                  (first | (go_at_call 6; refine (pop_some (hQ.chg (S := fun _ => False) (by repeat (first | exact Chg.refl _ _ | assumption | refine Chg.drewN ?_ _ | refine Chg.drew ?_ | refine Chg.alloc ?_ _)) (fun h => h) (fun _ _ h => h))).mono ?_; rintro e w' ⟨rfl, hcp, v', hQ', hv'⟩))
                have hcx : Chg wr w' (fun k => k = qb) := ((Chg.refl wr (fun k => k = qb)).drew).trans hcp
                have hL2 := hL.chg hcx (fun e => hql e.symm) (fun g hg e => hd2 g hg e)
                have m0 := hL2.c0
                have m1 := hL2.c1
                have mf := hL2.fr 1
                have ml := hL2.lt
                go_wp2_with fail
                go_meet
                case rel =>
                  have hst := Chg.set w' lb 1 (.int .i64 (gone + 1))
                  have hQge := hQ'.ge
                  have hLge := hL2.ge
                  refine ⟨v', _, cs, gone + 1, hQ'.chg hst hql (fun g hg e => ?_), ⟨hL2.ge, by rw [heap_set hL2.blk]; rfl, hL2.has.chg hst (fun g hg e => (hL2.ne g hg).2.1 e), fun g hg => ⟨(hL2.ne g hg).1, (hL2.ne g hg).2.1, by simp; exact (hL2.ne g hg).2.2⟩⟩, hql, ?_, hd2, hgo, by omega, h70, ?_⟩
                  · rw [hv'] at hg
                    exact (hd1 g hg).1 e
                  · rw [hv']; exact hd1
                  · exact (hcw.next hcx (fun i hi e => by omega)).next hst (fun i hi e => by omega)
              · have hgo' : ¬ (gone : Int) < cs.length := by omega
                have hdr : cs.drop gone = [] := List.drop_eq_nil_of_le (by omega)
                rw [hdr] at hQ
                have HD := Lib.hid hdr
                clear hdr
                go_wp2_with fail
                go_region_held3 (fun w' => w'.cell? ⟨lb, 0, none⟩ = some (.slice ac cs.length cc) ∧ w'.cell? ⟨lb, 1, none⟩ = some (.int .i64 gone)) (first | exact ⟨hcp.cell (a := ⟨lb, 0, none⟩) (by first | assumption | simp [*]) (fun h => h), hcp.cell (a := ⟨lb, 1, none⟩) (by first | assumption | simp [*]) (fun h => h)⟩ | go_keep)
                  (first | (go_at_call 6; refine (pop_none (hQ.chg (S := fun _ => False) (by repeat (first | exact Chg.refl _ _ | assumption | refine Chg.drewN ?_ _ | refine Chg.drew ?_ | refine Chg.alloc ?_ _)) (fun h => h) (fun _ _ h => h))).mono ?_; rintro e w' ⟨rfl, hcp⟩))
                have hcx : Chg wr w' (fun _ => False) := ((Chg.refl wr (fun _ => False)).drew).trans hcp
                have hL2 := hL.chg hcx (fun h => h) (fun _ _ h => h)
                have m0 := hL2.c0
                have m1 := hL2.c1
                go_wp2_with fail
                go_meet
                case rel =>
                  rw [← HD.out] at hQ
                  exact ⟨v, _, cs, gone, hQ.chg hcx (fun h => h) (fun _ _ h => h), hL2, hql, hd1, hd2, hg, hgm, h70, hcw.trans hcx⟩
            · have hz : ((e.length : Int) == 0) = false := by simp [he0]
              go_wp2_with fail
              go_meet
              case rel => exact ⟨v, _, cs, gone, hQ, hL, hql, hd1, hd2, hg, hgm, h70, hcw⟩
          case rest =>
            clear hQ hL hql hd1 hd2 hg hgm h70 hcw hql2 hll
            clear v cv cs gone
            obtain ⟨v, cv, cs, gone, hQ, hL, hql, hd1, hd2, hg, hgm, h70, hcw⟩ := hcut
            obtain ⟨i0, hi, hz0, hz1, hz2⟩ := info_parts infoT3
            have hsz := hcw.size
            have hLl := hL.lt
            go_wp2_with fail
            go_loopg [10, 11] e.length (fun g s10 s11 wy => ∃ (j : Nat) (a1 : Option Addr) (c1 : Nat), j + g = e.length ∧ s11 = .int .i64 j ∧ s10 = .slice a1 j c1 ∧ Own wy wc.heap.size 3 (.slice a1 j c1) j (tcs (tk cs.length (e.take j))) ∧ Chg wc wy (fun _ => False))
            case atStart => exact ⟨0, none, 0, by omega, rfl, rfl, Own.nil _ _ _, Chg.refl _ _⟩
            case round =>
              obtain ⟨j, a1, c1, hjg, rfl, rfl, hown, hcy⟩ := hrel
              have hL2 := hL.chg hcy (fun h => h) (fun _ _ h => h)
              have l0 := hL2.c0
              have ll := hL2.lt
              obtain ⟨ac, cc, rfl, hcl, hcm⟩ := hL.has.slice
              unfold maxLen at hcm
              by_cases hj : j < e.length
              · obtain ⟨g3, o3, cap3, hv3, _, _, hg3, hat3⟩ := hB3.atB (by omega)
                obtain ⟨rfl, rfl⟩ : a' = some ⟨g3, o3, none⟩ ∧ c' = cap3 := by simpa using hv3
                have k0 := hcy.cell (hcw.cell (hat3 j hj) (fun h => h)) (fun h => h)
                have ht : e.take (j + 1) = e.take j ++ [e[j]] := by rw [List.take_succ_eq_append_getElem hj]
                have hlt : (e.take j).length = j := by rw [List.length_take]; omega
                have HT := Lib.hid ht
                have HL := Lib.hid hlt
                clear ht hlt hat3 hv3
                generalize e[j] = b at *
                go_wp2_with fail
                have hwr : IntKind.i64.wrap ((cs.length : Int) + (j : Int)) = (cs.length : Int) + (j : Int) := IntWalk.i64_in _ (by omega)
                go_region_law (refine step_app _ rfl _ _ 33 33 rfl wc.heap.size 35 i0 _ 3 32 Try.underlying33 hi hz0 hz1 hz2 rfl _ j (tcs (tk cs.length (e.take j))) rfl ?_ (.slice (some ⟨wr.heap.size, 0, none⟩) 1 1) 1 [.string .empty, .int .i64 (cs.length + j), .bool b] ?_ ?_ ?_ ?_ ?_ ?_; (exact hown.chg (S := fun _ => False) (by repeat (first | exact Chg.refl _ _ | assumption | refine Chg.drewN ?_ _ | refine Chg.drew ?_ | refine Chg.alloc ?_ _)) (fun _ _ h => h)); rfl; (exact ((Own.new (w := wr) (base := 0) (t := 35) (size := 3) (n := 1) (cs := #[.string .empty, .int .i64 (cs.length + j), .bool b]) (Nat.zero_le _) rfl (by decide)).chg (S := fun _ => False) (by repeat (first | exact Chg.refl _ _ | assumption | refine Chg.drewN ?_ _ | refine Chg.drew ?_ | refine Chg.alloc ?_ _)) (fun _ _ h => h)).has.src Try.underlying33 (by simp; refine ⟨rfl, rfl, rfl⟩)); (unfold maxLen; omega); omega; (have := hcy.size; simp; omega); intro a2 c2 w2 hown2 hchg2 hat2)
                all_goals clear hwr k0 l0
                all_goals go_wp2_with fail
                all_goals
                  have hlo := hown.lt
                  go_roundg (gk - 1)
                  case measure => omega
                  case rel =>
                    refine ⟨j + 1, a2, c2, by omega, by go_num, rfl, ?_, ?_⟩
                    · rw [HT.out, tk_append, tcs_append, HL.out]
                      simpa [tk, tcs, tkc] using hown2
                    · refine Chg.next (w' := (wr.alloc (Obj.cells #[.string .empty, .int .i64 (cs.length + j), .bool b] 35)).drew) (by repeat (first | exact Chg.refl _ _ | assumption | refine Chg.drewN ?_ _ | refine Chg.drew ?_ | refine Chg.alloc ?_ _)) hchg2 (fun i hi e => by have := (hlo i e).1; omega)
              · obtain rfl : j = e.length := by omega
                rw [List.take_length] at hown
                clear hjg hj
                have hQ2 := hQ.chg hcy (fun h => h) (fun _ _ h => h)
                have hcw2 := hcw.trans hcy
                go_upto_region 24 with fail
                go_cut [113] (fun s113 wx => s113 = .bool false ∧ Inv w qb lb most (k + 1) wx)
                case first =>
                  by_cases he0 : e.length = 0
                  · have hz : decide ((0 : Int) < (e.length : Int)) = false := by simp [he0]
                    have hle0 : ¬ (0 : Int) < (e.length : Int) := by omega
                    clear he0
                    go_wp2_with fail
                    go_meet
                    case rel => exact ⟨rfl, v, _, cs, gone, hQ2, hL2, hql, hd1, hd2, hg, hgm, by omega, hcw2⟩
                  · have hz : decide ((0 : Int) < (e.length : Int)) = true := by simp; omega
                    have hep : 0 < e.length := by omega
                    have hown3 : Has wr 3 (.slice a1 e.length c1) (tk cs.length e).length (tcs (tk cs.length e)) := by rw [tk_len]; exact hown.has
                    have hB4 := hB3.chg hcw2 (fun _ _ h => h)
                    have hql2 := hQ2.ge
                    have hlo := hown.lt
                    have hql3 := hQ.lt
                    have hne : e.length ≠ 0 := he0
                    clear he0
                    have hus : (tk cs.length e).length = e.length := tk_len _ _
                    have hts : (tk gone (cs.drop gone)).length = cs.length - gone := by rw [tk_len, List.length_drop]
                    have htn : (tk gone (cs.drop gone)).length ≤ 64 := by omega
                    have HUS := Lib.hid hus
                    have HTS := Lib.hid hts
                    clear hus hts
                    cases hla : lastb cs
                    · rw [hla] at hQ2
                      by_cases hfu : most < (cs.length : Int) - gone + e.length
                      · go_wp2_with fail
                        refine (push_full hQ2 hown3 (by omega) h2 htn (by rw [HUS.out, HTS.out]; omega)).mono ?_; rintro e1 w4 ⟨rfl, hc4⟩
                        go_wp2_with fail
                        refine (linePush_full (us := e) (hL2.chg hc4 (fun h => h) (fun _ _ h => h)) (hB4.chg hc4 (fun _ _ h => h)) hla hfu (by omega) (by omega) (by omega) (by omega) (by omega)).mono ?_; rintro e1 w5 ⟨rfl, hc5⟩
                        go_wp2_with fail
                        go_meet
                        case rel =>
                          have hcz := hc4.trans hc5
                          exact ⟨rfl, v, _, cs, gone, by rw [hla]; exact hQ2.chg hcz (fun h => h) (fun _ _ h => h), hL2.chg hcz (fun h => h) (fun _ _ h => h), hql, hd1, hd2, hg, hgm, by omega, hcw2.trans hcz⟩
                      · have hroom : ((tk cs.length e).length : Int) ≤ most - (tk gone (cs.drop gone)).length := by rw [HUS.out, HTS.out]; omega
                        cases hea : earlyb e
                        · go_wp2_with fail
                          refine (push_ok hQ2 hown3 (by omega) h2 htn hroom (by rw [tk_early]; exact hea) (fun g hg => ⟨by have := hlo g hg; omega, fun e => by have := hQ.own.lt g e; have := hlo g hg; omega⟩)).mono ?_; rintro e1 w4 ⟨rfl, hc4, v4, hQ4, hv4⟩
                          have hLa := hL2.chg hc4 (fun e => e.elim (fun e => hql e.symm) (fun e => (hd1 _ e).1 rfl)) (fun g hg e => e.elim (fun e => hd2 g hg e) (fun e => (hd1 g e).2 hg))
                          have hc4n : Chg w w4 (fun _ => False) := hcw2.next hc4 (fun i hi e => e.elim (fun e => by omega) (fun e => by have := hQ.own.lt i e; omega))
                          have hsz4 := hc4.size
                          have hszy := hcy.size
                          have hQ4l := hQ4.own.lt
                          have hQ4k := hQ4.lt
                          go_wp2_with fail
                          refine (linePush_ok (us := e) hLa (hB3.chg hc4n (fun _ _ h => h)) hla (by omega) (by omega) (by omega) (by omega) (by omega) hea hep hc4n.size).mono ?_; rintro e1 w5 ⟨rfl, hc5, cv5, hL5, hf5⟩
                          go_wp2_with fail
                          go_meet
                          case rel =>
                            rw [tk_push _ _ _ hg, tk_last, ← lastb_append cs e hep] at hQ4
                            refine ⟨rfl, v4, cv5, cs ++ e, gone, hQ4.chg hc5 hql (fun g hg e => ?_), hL5, hql, fun g hg => ⟨?_, fun e => ?_⟩, fun g hg e => ?_, ?_, ?_, ?_, hc4n.next hc5 (fun i hi e => by have := hL2.ge; omega)⟩
                            · rcases hv4 with h | ⟨g', h, h'⟩
                              · exact (hd1 g (h ▸ hg)).1 e
                              · rw [h] at hg; cases hg; omega
                            · rcases hv4 with h | ⟨g', h, h'⟩
                              · exact (hd1 g (h ▸ hg)).1
                              · rw [h] at hg; cases hg; omega
                            · have := hf5 g e; have := (hQ4l g hg).2; omega
                            · have := hf5 g hg; omega
                            · rw [List.length_append]; omega
                            · rw [List.length_append]; omega
                            · rw [List.length_append]; omega
                        · go_wp2_with fail
                          refine (push_early hQ2 hown3 (by omega) h2 htn hroom (by rw [tk_early]; exact hea)).mono ?_; rintro e1 w4 ⟨rfl, hc4⟩
                          go_wp2_with fail
                          refine (linePush_early (us := e) (hL2.chg hc4 (fun h => h) (fun _ _ h => h)) (hB4.chg hc4 (fun _ _ h => h)) hla (by omega) (by omega) (by omega) (by omega) (by omega) hea).mono ?_; rintro e1 w5 ⟨rfl, hc5⟩
                          go_wp2_with fail
                          go_meet
                          case rel =>
                            have hcz := hc4.trans hc5
                            exact ⟨rfl, v, _, cs, gone, by rw [hla]; exact hQ2.chg hcz (fun h => h) (fun _ _ h => h), hL2.chg hcz (fun h => h) (fun _ _ h => h), hql, hd1, hd2, hg, hgm, by omega, hcw2.trans hcz⟩
                    · rw [hla] at hQ2
                      go_wp2_with fail
                      refine (push_state hQ2).mono ?_; rintro e1 w4 ⟨rfl, rfl⟩
                      go_wp2_with fail
                      refine (linePush_last (v2 := .slice a' e.length c') hL2 hla).mono ?_; rintro e1 w5 ⟨rfl, hc5⟩
                      go_wp2_with fail
                      go_meet
                      case rel =>
                        exact ⟨rfl, v, _, cs, gone, by rw [hla]; exact hQ2.chg hc5 (fun h => h) (fun _ _ h => h), hL2.chg hc5 (fun h => h) (fun _ _ h => h), hql, hd1, hd2, hg, hgm, by omega, hcw2.trans hc5⟩
                case rest =>
                  clear hQ hL hql hd1 hd2 hg hgm h70 hcw hQ2 hcw2 hL2 l0 ll hown hcl hcm hB3 hcy
                  obtain ⟨rfl, v, cv, cs, gone, hQ, hL, hql, hd1, hd2, hg, hgm, h70, hcw⟩ := hcut
                  have hts : (tk gone (cs.drop gone)).length = cs.length - gone := by rw [tk_len, List.length_drop]
                  have hFull : ∀ W, Qat W w.heap.size qb v (tk gone (cs.drop gone)) most (lastb cs) → Calls Try.prog 11 #[.pointer (some ⟨qb, 0, none⟩)] W fun e w' => e = .returned (.bool ((cs.length : Int) - gone == most)) ∧ ∃ k, w' = W.drewN k := fun W h => by
                    have := full_any h (by omega) h2 (by omega)
                    rw [hts] at this
                    rw [show (((cs.length : Int) - gone == most) = (most - ((cs.length - gone : Nat) : Int) == 0)) from by rw [Bool.eq_iff_iff]; simp; omega]
                    exact this
                  have hLen : ∀ W, Qat W w.heap.size qb v (tk gone (cs.drop gone)) most (lastb cs) → Calls Try.prog 10 #[.pointer (some ⟨qb, 0, none⟩)] W fun e w' => e = .returned (.int .i64 ((cs.length : Int) - gone)) ∧ W = w' := fun W h => by
                    have := len_any h
                    rw [hts] at this
                    rw [show (((cs.length : Int) - gone) = ((cs.length - gone : Nat) : Int)) from by omega]
                    exact this
                  by_cases hgo : gone < cs.length
                  · have hQ0 := hQ
                    rw [tk_drop cs gone hgo] at hQ0
                    obtain ⟨gc, oc, capc, hvc, _, _, hgc, hatc⟩ := hL.has.atB (by omega)
                    have kc := hatc gone hgo
                    have hdc : decide ((0 : Int) < (cs.length : Int) - gone) = true := by simp; omega
                    clear hatc
                    generalize cs[gone] = b at *
                    go_wp2_with fail
                    refine (front_some hQ0).mono ?_; rintro e1 w4 ⟨rfl, hc4⟩
                    have hQ4 := hQ.chg hc4 (fun h => h) (fun _ _ h => h)
                    have hL4 := hL.chg hc4 (fun h => h) (fun _ _ h => h)
                    have kc4 := hc4.cell kc (fun h => h)
                    have l0 := hL4.c0
                    have l1 := hL4.c1
                    have ll := hL4.lt
                    have lg : gc < w4.heap.size := World.block_lt_of_cell? _ _ kc4
                    rw [hvc] at l0
                    clear kc hQ0
                    have hQ5 := hQ4.chg (S := fun _ => False) ((Chg.refl w4 _).alloc (Obj.cells #[.string .empty, .int .i64 gone, .bool b] 35)) (fun h => h) (fun _ _ h => h)
                    have hL5 := hL4.chg (S := fun _ => False) ((Chg.refl w4 _).alloc (Obj.cells #[.string .empty, .int .i64 gone, .bool b] 35)) (fun h => h) (fun _ _ h => h)
                    have hc5 : Chg w (w4.alloc (Obj.cells #[.string .empty, .int .i64 gone, .bool b] 35)) (fun _ => False) := (hcw.trans hc4).alloc _
                    clear hQ4 hL4 hQ hL hc4 hcw hts
                    go_wp2_with fail
                    go_quiet ((first | (go_at_call 10; exact quiet_left (hLen _ (hQ5.chg (S := fun _ => False) ((Chg.refl _ _).drewN _) (fun h => h) (fun _ _ h => h)))) | (go_at_call 11; exact quiet_dr (hFull _ (hQ5.chg (S := fun _ => False) ((Chg.refl _ _).drewN _) (fun h => h) (fun _ _ h => h)))) | (go_at_call 12; exact quiet_left (last_any (hQ5.chg (S := fun _ => False) ((Chg.refl _ _).drewN _) (fun h => h) (fun _ _ h => h)))) | (go_at_call 13; exact quiet_dr (lineLast_any (hL5.chg (S := fun _ => False) ((Chg.refl _ _).drewN _) (fun h => h) (fun _ _ h => h))))))
                    go_wp2_with fail
                    go_roundg (dd.length - (k + 1))
                    case measure => omega
                    case rel => exact ⟨k + 1, by omega, by omega, by go_num, v, cv, cs, gone, hQ5.chg (S := fun _ => False) (by repeat (first | exact Chg.refl _ _ | assumption | refine Chg.drewN ?_ _ | refine Chg.drew ?_ | refine Chg.alloc ?_ _)) (fun h => h) (fun _ _ h => h), hL5.chg (S := fun _ => False) (by repeat (first | exact Chg.refl _ _ | assumption | refine Chg.drewN ?_ _ | refine Chg.drew ?_ | refine Chg.alloc ?_ _)) (fun h => h) (fun _ _ h => h), hql, hd1, hd2, hg, hgm, h70, by repeat (first | exact Chg.refl _ _ | assumption | refine Chg.drewN ?_ _ | refine Chg.drew ?_ | refine Chg.alloc ?_ _)⟩
                  · have hdr : cs.drop gone = [] := List.drop_eq_nil_of_le (by omega)
                    have hQ0 := hQ
                    rw [hdr] at hQ0
                    have hdc : decide ((0 : Int) < (cs.length : Int) - gone) = false := by simp; omega
                    obtain ⟨ac, cc, rfl, _, hcm⟩ := hL.has.slice
                    unfold maxLen at hcm
                    clear hdr
                    go_wp2_with fail
                    refine (front_none hQ0).mono ?_; rintro e1 w4 ⟨rfl, hc4⟩
                    have hQ4 := hQ.chg hc4 (fun h => h) (fun _ _ h => h)
                    have hL4 := hL.chg hc4 (fun h => h) (fun _ _ h => h)
                    have l0 := hL4.c0
                    have l1 := hL4.c1
                    have ll := hL4.lt
                    clear hQ0
                    have hQ5 := hQ4.chg (S := fun _ => False) ((Chg.refl w4 _).alloc (Obj.cells #[.string .empty, .int .i64 0, .bool false] 35)) (fun h => h) (fun _ _ h => h)
                    have hL5 := hL4.chg (S := fun _ => False) ((Chg.refl w4 _).alloc (Obj.cells #[.string .empty, .int .i64 0, .bool false] 35)) (fun h => h) (fun _ _ h => h)
                    have hc5 : Chg w (w4.alloc (Obj.cells #[.string .empty, .int .i64 0, .bool false] 35)) (fun _ => False) := (hcw.trans hc4).alloc _
                    clear hQ4 hL4 hQ hL hc4 hcw hts
                    go_wp2_with fail
                    go_quiet ((first | (go_at_call 10; exact quiet_left (hLen _ (hQ5.chg (S := fun _ => False) ((Chg.refl _ _).drewN _) (fun h => h) (fun _ _ h => h)))) | (go_at_call 11; exact quiet_dr (hFull _ (hQ5.chg (S := fun _ => False) ((Chg.refl _ _).drewN _) (fun h => h) (fun _ _ h => h)))) | (go_at_call 12; exact quiet_left (last_any (hQ5.chg (S := fun _ => False) ((Chg.refl _ _).drewN _) (fun h => h) (fun _ _ h => h)))) | (go_at_call 13; exact quiet_dr (lineLast_any (hL5.chg (S := fun _ => False) ((Chg.refl _ _).drewN _) (fun h => h) (fun _ _ h => h))))))
                    go_wp2_with fail
                    go_roundg (dd.length - (k + 1))
                    case measure => omega
                    case rel => exact ⟨k + 1, by omega, by omega, by go_num, v, _, cs, gone, hQ5.chg (S := fun _ => False) (by repeat (first | exact Chg.refl _ _ | assumption | refine Chg.drewN ?_ _ | refine Chg.drew ?_ | refine Chg.alloc ?_ _)) (fun h => h) (fun _ _ h => h), hL5.chg (S := fun _ => False) (by repeat (first | exact Chg.refl _ _ | assumption | refine Chg.drewN ?_ _ | refine Chg.drew ?_ | refine Chg.alloc ?_ _)) (fun h => h) (fun _ _ h => h), hql, hd1, hd2, hg, hgm, h70, by repeat (first | exact Chg.refl _ _ | assumption | refine Chg.drewN ?_ _ | refine Chg.drew ?_ | refine Chg.alloc ?_ _)⟩
      · have h60' : ¬ (k : Int) < 60 := by omega
        obtain ⟨_, _, _, _, _, _, _, _, _, _, _, _, hcw⟩ := hI
        go_wp2_with fail
        go_ret
        exact ⟨rfl, hcw⟩
    · have hlt' : ¬ (k : Int) < dd.length := by omega
      obtain ⟨_, _, _, _, _, _, _, _, _, _, _, _, hcw⟩ := hI
      go_wp2_with fail
      go_ret
      exact ⟨rfl, hcw⟩
end Go.Proofs.Ythncigahodannaa
