/- the reference's line: Push, Last. -/
import Derived.Test.YthncigahodannaaLib
import Derived.Test.YthncigahodannaaProg
namespace Go.Proofs.Ythncigahodannaa
open Go.RowKit

def bcs (l : List Bool) : List Value := l.map Value.bool
theorem bcs_len (l : List Bool) : (bcs l).length = l.length * 1 := by simp [bcs]
theorem bcs_one (l : List Bool) : ∀ u ∈ bcs l, u.oneCell' = true := by
  intro u hu
  obtain ⟨b, _, rfl⟩ := List.mem_map.1 hu
  rfl
theorem Has.atB {w : World} {v : Value} {l : List Bool} (h : Has w 1 v l.length (bcs l)) (hp : 0 < l.length) :
    ∃ g o cap, v = .slice (some ⟨g, o, none⟩) l.length cap ∧ l.length ≤ cap ∧ cap ≤ maxLen ∧ g < w.heap.size ∧ ∀ k (hk : k < l.length), w.cell? ⟨g, o + k, none⟩ = some (.bool l[k]) := by
  rcases h.is with ⟨h0, _⟩ | ⟨g, o, cap, hv, hn, hm, hc⟩
  · omega
  · have all : ∀ k (hk : k < l.length), w.cell? ⟨g, o + k, none⟩ = some (.bool l[k]) := fun k hk => by
      rw [hc k (by omega)]; simp [bcs, hk]
    exact ⟨g, o, cap, hv, hn, hm, World.block_lt_of_cell? _ _ (all 0 hp), all⟩

/-- the line at block lb -/
structure Lat (w : World) (base lb : Nat) (v : Value) (cs : List Bool) (gone most : Int) : Prop where
  ge : base ≤ lb
  blk : w.heap[lb]? = some (.cells #[v, .int .i64 gone, .int .i64 most] 30 (0, 0))
  has : Has w 1 v cs.length (bcs cs)
  ne : ∀ g, v.ownBlock = some g → base ≤ g ∧ g ≠ lb ∧ g < w.heap.size

section
variable {w w' : World} {base lb : Nat} {v : Value} {cs : List Bool} {gone most : Int}
theorem Lat.lt (h : Lat w base lb v cs gone most) : lb < w.heap.size := (Array.getElem?_eq_some_iff.1 h.blk).1
theorem Lat.c0 (h : Lat w base lb v cs gone most) : w.cell? ⟨lb, 0, none⟩ = some v := by rw [cell_of_row w lb 0 _ _ _ h.blk]; rfl
theorem Lat.c1 (h : Lat w base lb v cs gone most) : w.cell? ⟨lb, 1, none⟩ = some (.int .i64 gone) := by rw [cell_of_row w lb 1 _ _ _ h.blk]; rfl
theorem Lat.c2 (h : Lat w base lb v cs gone most) : w.cell? ⟨lb, 2, none⟩ = some (.int .i64 most) := by rw [cell_of_row w lb 2 _ _ _ h.blk]; rfl
theorem Lat.fr (h : Lat w base lb v cs gone most) (j : Nat) : w.frozen? ⟨lb, j, none⟩ = false := by simp [World.frozen?, h.blk]
theorem Lat.chg {S : Nat → Prop} (h : Lat w base lb v cs gone most) (c : Chg w w' S) (h1 : ¬ S lb) (h2 : ∀ g, v.ownBlock = some g → ¬ S g) : Lat w' base lb v cs gone most :=
  ⟨h.ge, (c.block lb h.lt h1).trans h.blk, h.has.chg c h2, fun g hg => ⟨(h.ne g hg).1, (h.ne g hg).2.1, Nat.lt_of_lt_of_le (h.ne g hg).2.2 c.size⟩⟩

def lastb (cs : List Bool) : Bool := cs.getLast?.getD false
theorem lastb_at (cs : List Bool) (h : 0 < cs.length) : lastb cs = cs[cs.length - 1] := by
  unfold lastb
  rw [List.getLast?_eq_getElem?, List.getElem?_eq_getElem (by omega)]
  rfl

set_option maxHeartbeats 400000 in
theorem lineLast_any (h : Lat w base lb v cs gone most) :
    Calls Try.prog 13 #[.pointer (some ⟨lb, 0, none⟩)] w fun e w' => e = .returned (.bool (lastb cs)) ∧ ∃ k, w' = w.drewN k := by
  have hn := h.has.slice
  obtain ⟨a, c, rfl, _, hmx⟩ := hn
  unfold maxLen at hmx
  have h0 := h.c0
  by_cases hz : cs.length = 0
  · have : cs = [] := List.eq_nil_of_length_eq_zero hz
    subst this
    have hd : decide ((0 : Int) < (([] : List Bool).length : Int)) = false := rfl
    simp only [List.length_nil] at h0
    go_enter Try.func13, Try.ntmps13
    go_wp2_with fail
    go_quiet (fail)
    go_wp2_with fail
    go_ret
    exact ⟨rfl, _, rfl⟩
  · have hp : 0 < cs.length := by omega
    obtain ⟨g, o, cap, hvs, _, _, _, hat⟩ := h.has.atB hp
    have k0 := hat (cs.length - 1) (by omega)
    obtain ⟨rfl, rfl⟩ : a = some ⟨g, o, none⟩ ∧ c = cap := by simpa using hvs
    have HL := Lib.hid (lastb_at cs hp)
    have hd : decide ((0 : Int) < (cs.length : Int)) = true := by simpa using hp
    clear hat h hvs hz
    generalize cs[cs.length - 1] = q at *
    go_enter Try.func13, Try.ntmps13
    go_wp2_with fail
    go_quiet (fail)
    go_wp2_with fail
    go_ret
    exact ⟨by rw [HL.out]; rfl, _, rfl⟩

set_option maxHeartbeats 400000 in
theorem linePush_last {v2 : Value} (h : Lat w base lb v cs gone most) (hl : lastb cs = true) :
    Calls Try.prog 8 #[.pointer (some ⟨lb, 0, none⟩), v2] w fun e w' => e = .returned (.int .i64 8) ∧ Chg w w' (fun _ => False) := by
  have hn := h.has.slice
  obtain ⟨a, c, rfl, _, hmx⟩ := hn
  unfold maxLen at hmx
  have h0 := h.c0
  by_cases hz : cs.length = 0
  · have : cs = [] := List.eq_nil_of_length_eq_zero hz
    subst this
    cases hl
  · have hp : 0 < cs.length := by omega
    obtain ⟨g, o, cap, hvs, _, _, _, hat⟩ := h.has.atB hp
    have k0 := hat (cs.length - 1) (by omega)
    obtain ⟨rfl, rfl⟩ : a = some ⟨g, o, none⟩ ∧ c = cap := by simpa using hvs
    rw [lastb_at cs hp] at hl
    rw [hl] at k0
    have hd : decide ((0 : Int) < (cs.length : Int)) = true := by simpa using hp
    clear hat h hvs hz hl
    go_enter Try.func8, Try.ntmps8
    go_wp2_with fail
    go_quiet (fail)
    go_wp2_with fail
    go_ret
    exact ⟨rfl, (Chg.refl _ _).drewN _⟩

set_option maxHeartbeats 400000 in
theorem linePush_full {v2 : Value} {us : List Bool} (h : Lat w base lb v cs gone most) (hv2 : Has w 1 v2 us.length (bcs us)) (hl : lastb cs = false) (hf : most < cs.length - gone + us.length)
   (hcs : cs.length ≤ 1000000) (hg0 : 0 ≤ gone) (hg1 : gone ≤ cs.length) (hus : us.length ≤ 1000) (hm : 0 ≤ most) :
    Calls Try.prog 8 #[.pointer (some ⟨lb, 0, none⟩), v2] w fun e w' => e = .returned (.int .i64 10) ∧ Chg w w' (fun _ => False) := by
  obtain ⟨a2, c2, rfl, _, _⟩ := hv2.slice
  obtain ⟨a, c, rfl, _, hmx⟩ := h.has.slice
  unfold maxLen at hmx
  have h0 := h.c0
  have h1 := h.c1
  have h2 := h.c2
  by_cases hz : cs.length = 0
  · have : cs = [] := List.eq_nil_of_length_eq_zero hz
    subst this
    have hd : decide ((0 : Int) < (([] : List Bool).length : Int)) = false := rfl
    simp only [List.length_nil] at h0 hf hg1
    go_enter Try.func8, Try.ntmps8
    go_wp2_with fail
    go_quiet (fail)
    go_wp2_with fail
    go_quiet (fail)
    go_wp2_with fail
    go_ret
    exact ⟨rfl, by repeat (first | exact Chg.refl _ _ | assumption | refine Chg.drewN ?_ _ | refine Chg.drew ?_ | refine Chg.alloc ?_ _)⟩
  · have hp : 0 < cs.length := by omega
    obtain ⟨g, o, cap, hvs, _, _, _, hat⟩ := h.has.atB hp
    have k0 := hat (cs.length - 1) (by omega)
    obtain ⟨rfl, rfl⟩ : a = some ⟨g, o, none⟩ ∧ c = cap := by simpa using hvs
    rw [lastb_at cs hp] at hl
    rw [hl] at k0
    have hd : decide ((0 : Int) < (cs.length : Int)) = true := by simpa using hp
    clear hat h hvs hz hl
    go_enter Try.func8, Try.ntmps8
    go_wp2_with fail
    go_quiet (fail)
    go_wp2_with fail
    go_quiet (fail)
    go_wp2_with fail
    go_ret
    exact ⟨rfl, by repeat (first | exact Chg.refl _ _ | assumption | refine Chg.drewN ?_ _ | refine Chg.drew ?_ | refine Chg.alloc ?_ _)⟩

def earlyb (us : List Bool) : Bool := us.dropLast.any id
theorem earlyb_no {us : List Bool} (h : earlyb us = false) (k : Nat) (hk : k + 1 < us.length) : us[k] = false := by
  unfold earlyb at h
  rw [List.any_eq_false] at h
  have := h (us[k]) (List.mem_iff_getElem.2 ⟨k, by simp; omega, by simp⟩)
  simpa using this
theorem earlyb_of {us : List Bool} (h : ∀ k (hk : k < us.length), k + 1 < us.length → us[k] = false) : earlyb us = false := by
  unfold earlyb
  rw [List.any_eq_false]
  intro x hx
  obtain ⟨j, hj, rfl⟩ := List.getElem_of_mem hx
  simp at hj
  have := h j (by omega) (by omega)
  simp [this]

def ERel (us : List Bool) (i : Value) : Prop := ∃ k : Nat, (us.length = 0 ∨ k < us.length) ∧ i = .int .i64 k ∧ ∀ j (hj : j < us.length), j < k → us[j] = false

set_option maxHeartbeats 800000 in
theorem linePush_early {v2 : Value} {us : List Bool} (h : Lat w base lb v cs gone most) (hv2 : Has w 1 v2 us.length (bcs us)) (hl : lastb cs = false) (hf : ¬ most < cs.length - gone + us.length)
   (hcs : cs.length ≤ 1000000) (hg0 : 0 ≤ gone) (hg1 : gone ≤ cs.length) (hus : us.length ≤ 1000) (he : earlyb us = true) :
    Calls Try.prog 8 #[.pointer (some ⟨lb, 0, none⟩), v2] w fun e w' => e = .returned (.int .i64 8) ∧ Chg w w' (fun _ => False) := by
  have hu : 0 < us.length := by
    rcases us with _ | ⟨x, r⟩
    · cases he
    · simp
  obtain ⟨g2, o2, c2, rfl, _, _, _, hat2⟩ := hv2.atB hu
  obtain ⟨a, c, rfl, _, hmx⟩ := h.has.slice
  unfold maxLen at hmx
  have h0 := h.c0
  have h1 := h.c1
  have h2 := h.c2
  have HE := Lib.hid he
  clear he hv2
  by_cases hz : cs.length = 0
  · have : cs = [] := List.eq_nil_of_length_eq_zero hz
    subst this
    have hd : decide ((0 : Int) < (([] : List Bool).length : Int)) = false := rfl
    simp only [List.length_nil] at h0 hf hg1
    clear hl h hz
    go_enter Try.func8, Try.ntmps8
    go_wp2_with fail
    go_quiet (fail)
    go_wp2_with fail
    go_quiet (fail)
    go_wp2_with fail
    go_loop [5] (fun i => ERel us i) (fun i => us.length - (intOf i).toNat)
    case atStart => exact ⟨0, .inr hu, rfl, fun j _ h => absurd h (by omega)⟩
    case round =>
      obtain ⟨k, hk, rfl, hno⟩ := hrel
      by_cases hlt : k + 1 < us.length
      · have k0 := hat2 k (by omega)
        cases hb : us[k]
        · rw [hb] at k0
          have HN := Lib.hid hno
          have HB := Lib.hid hb
          clear hno hb
          go_wp2_with fail
          go_round
          case rel =>
            refine ⟨k + 1, .inr hlt, by go_num, fun j hj hjk => ?_⟩
            by_cases e : j = k
            · subst e; exact HB.out
            · exact HN.out j hj (by omega)
          case measure => simp [intOf]; omega
        · rw [hb] at k0
          clear hno hb
          go_wp2_with fail
          go_ret
          exact ⟨rfl, by repeat (first | exact Chg.refl _ _ | assumption | refine Chg.drewN ?_ _ | refine Chg.drew ?_ | refine Chg.alloc ?_ _)⟩
      · exfalso
        have := HE.out
        rw [earlyb_of (fun j hj hj1 => hno j hj (by omega))] at this
        cases this
  · have hp : 0 < cs.length := by omega
    obtain ⟨g, o, cap, hvs, _, _, _, hat⟩ := h.has.atB hp
    have k0 := hat (cs.length - 1) (by omega)
    obtain ⟨rfl, rfl⟩ : a = some ⟨g, o, none⟩ ∧ c = cap := by simpa using hvs
    rw [lastb_at cs hp] at hl
    rw [hl] at k0
    have hd : decide ((0 : Int) < (cs.length : Int)) = true := by simpa using hp
    clear hat h hvs hz hl
    go_enter Try.func8, Try.ntmps8
    go_wp2_with fail
    go_quiet (fail)
    go_wp2_with fail
    go_quiet (fail)
    go_wp2_with fail
    go_loop [5] (fun i => ERel us i) (fun i => us.length - (intOf i).toNat)
    case atStart => exact ⟨0, .inr hu, rfl, fun j _ h => absurd h (by omega)⟩
    case round =>
      obtain ⟨k, hk, rfl, hno⟩ := hrel
      by_cases hlt : k + 1 < us.length
      · have k0 := hat2 k (by omega)
        cases hb : us[k]
        · rw [hb] at k0
          have HN := Lib.hid hno
          have HB := Lib.hid hb
          clear hno hb
          go_wp2_with fail
          go_round
          case rel =>
            refine ⟨k + 1, .inr hlt, by go_num, fun j hj hjk => ?_⟩
            by_cases e : j = k
            · subst e; exact HB.out
            · exact HN.out j hj (by omega)
          case measure => simp [intOf]; omega
        · rw [hb] at k0
          clear hno hb
          go_wp2_with fail
          go_ret
          exact ⟨rfl, by repeat (first | exact Chg.refl _ _ | assumption | refine Chg.drewN ?_ _ | refine Chg.drew ?_ | refine Chg.alloc ?_ _)⟩
      · exfalso
        have := HE.out
        rw [earlyb_of (fun j hj hj1 => hno j hj (by omega))] at this
        cases this
theorem infoBool : (Try.prog.info? 4).map (fun i => (i.zero, i.size, i.bytes)) = some (some (.bool false), 1, 1) := by kernel_rfl
theorem bcs_append (a b : List Bool) : bcs (a ++ b) = bcs a ++ bcs b := by simp [bcs]

/-- the line behind a push -/
def LPost (w : World) (base lb : Nat) (cs us : List Bool) (gone most : Int) (w' : World) : Prop := Chg w w' (fun k => k = lb) ∧ ∃ v', Lat w' base lb v' (cs ++ us) gone most ∧ ∀ g, v'.ownBlock = some g → w.heap.size ≤ g

set_option maxHeartbeats 800000 in
theorem linePush_ok {v2 : Value} {us : List Bool} (h : Lat w base lb v cs gone most) (hv2 : Has w 1 v2 us.length (bcs us)) (hl : lastb cs = false) (hf : ¬ most < cs.length - gone + us.length)
   (hcs : cs.length ≤ 1000000) (hg0 : 0 ≤ gone) (hg1 : gone ≤ cs.length) (hus : us.length ≤ 1000) (he : earlyb us = false) (hu : 0 < us.length) (hbase : base ≤ w.heap.size) :
    Calls Try.prog 8 #[.pointer (some ⟨lb, 0, none⟩), v2] w fun e w' => e = .returned (.int .i64 0) ∧ LPost w base lb cs us gone most w' := by
  obtain ⟨i0, hi, hz0, hz1, hz2⟩ := info_parts infoBool
  obtain ⟨g2, o2, c2, rfl, _, _, hg2, hat2⟩ := hv2.atB hu
  obtain ⟨a, c, rfl, _, hmx⟩ := h.has.slice
  unfold maxLen at hmx
  have h0 := h.c0
  have h1 := h.c1
  have h2 := h.c2
  have hq := h.lt
  have HE := Lib.hid he
  have HV := Lib.hid hv2
  have HH := Lib.hid h
  clear he hv2
  by_cases hz : cs.length = 0
  · have : cs = [] := List.eq_nil_of_length_eq_zero hz
    subst this
    have hd : decide ((0 : Int) < (([] : List Bool).length : Int)) = false := rfl
    simp only [List.length_nil] at h0 hf hg1
    clear hl h hz
    go_enter Try.func8, Try.ntmps8
    go_wp2_with fail
    go_quiet (fail)
    go_wp2_with fail
    go_quiet (fail)
    go_wp2_with fail
    go_loopw [5] (fun i wr => ERel us i ∧ Chg w wr (fun _ => False)) (fun i _ => us.length - (intOf i).toNat)
    case atStart => exact ⟨⟨0, .inr hu, rfl, fun j _ h => absurd h (by omega)⟩, by repeat (first | exact Chg.refl _ _ | assumption | refine Chg.drewN ?_ _ | refine Chg.drew ?_ | refine Chg.alloc ?_ _)⟩
    case round =>
      obtain ⟨⟨k, hk, rfl, hno⟩, hc⟩ := hrel
      by_cases hlt : k + 1 < us.length
      · have k0 := hc.cell (hat2 k (by omega)) (fun h => h)
        have hb := earlyb_no HE.out k hlt
        rw [hb] at k0
        have HN := Lib.hid hno
        have HB := Lib.hid hb
        clear hno hb
        go_wp2_with fail
        go_roundw
        case rel =>
          refine ⟨⟨k + 1, .inr hlt, by go_num, fun j hj hjk => ?_⟩, hc⟩
          by_cases e : j = k
          · subst e; exact HB.out
          · exact HN.out j hj (by omega)
        case measure => simp [intOf]; omega
      · clear hno hat2
        have hH := HH.out.chg hc (fun h => h) (fun _ _ h => h)
        have q0 := hH.c0
        have ql := hH.lt
        have hsz := hc.size
        go_wp2_with (at_builtin; go_must (refine wpList_app _ rfl _ _ 28 28 rfl wr.heap.size 4 i0 _ 1 1 Try.underlying28 hi hz0 hz1 hz2 rfl _ 0 [] rfl ?own _ ([] : List Bool).length (bcs ([] : List Bool)) rfl ?src ?c1 ?c2 ?c3 ?_))
        case own => exact Own.new (cs := #[]) (by omega) rfl (by decide)
        case src => exact (hH.has.chg (S := fun _ => False) (by repeat (first | exact Chg.refl _ _ | assumption | refine Chg.drewN ?_ _ | refine Chg.drew ?_ | refine Chg.alloc ?_ _)) (fun _ _ h => h)).src Try.underlying28 (bcs_one _)
        case c1 => simp [maxLen]; try omega
        case c2 => simp; try omega
        case c3 => simp
        intro a1 c1 w1 hown1 hchg1 hat1
        try simp only [Nat.zero_add, List.nil_append] at hown1
        have hw1 : Chg wr w1 (fun _ => False) := by
          have hA : Chg wr (wr.alloc (Obj.cells #[] 4)) (fun _ => False) := (Chg.refl _ _).alloc _
          refine ⟨hchg1.os.trans hA.os, hchg1.tape.trans hA.tape, hchg1.output.trans hA.output, Nat.le_trans hA.size hchg1.size, fun k hk hn => (hchg1.block k (Nat.lt_of_lt_of_le hk hA.size) (fun e => ?_)).trans (hA.block k hk hn)⟩
          simp [Value.ownBlock] at e; omega
        have hH1 := hH.chg hw1 (fun h => h) (fun _ _ h => h)
        have hV1 := (HV.out.chg hc (fun _ _ h => h)).chg hw1 (fun _ _ h => h)
        have p0 := hH1.c0
        have p1 := hH1.fr 0
        have pl := hH1.lt
        go_wp2_with (at_builtin; go_must (refine wpList_app _ rfl _ _ 28 28 rfl wr.heap.size 4 i0 _ 1 1 Try.underlying28 hi hz0 hz1 hz2 rfl _ ([] : List Bool).length (bcs ([] : List Bool)) rfl ?own2 _ us.length (bcs us) rfl ?src2 ?d1 ?d2 ?d3 ?_))
        case own2 => exact hown1
        case src2 => exact hV1.src Try.underlying28 (bcs_one _)
        case d1 => simp [maxLen]; try omega
        case d2 => simp; try omega
        case d3 => exact hw1.size
        intro a2 c2' w2 hown2 hchg2 hat2
        have hb1 := hown1.lt
        have hb2 := hown2.lt
        have hw2 : Chg wr w2 (fun _ => False) := ⟨hchg2.os.trans hw1.os, hchg2.tape.trans hw1.tape, hchg2.output.trans hw1.output, Nat.le_trans hw1.size hchg2.size, fun k hk hn => (hchg2.block k (Nat.lt_of_lt_of_le hk hw1.size) (fun e => by have := (hb1 k e).1; omega)).trans (hw1.block k hk hn)⟩
        have hH2 := hH.chg hw2 (fun h => h) (fun _ _ h => h)
        have r0 := hH2.c0
        have r1 := hH2.fr 0
        have rl := hH2.lt
        clear p0 p1 q0
        go_wp2_with fail
        go_ret
        refine ⟨rfl, ?_, _, ⟨HH.out.ge, by rw [heap_set hH2.blk]; rfl, ?_, ?_⟩, fun g hg => Nat.le_trans hsz (hb2 g hg).1⟩
        · refine Chg.setCell ((hc.trans hw2).mono (fun _ _ h => h.elim)) ?_ _
          exact .inr rfl
        · rw [bcs_append, List.length_append]
          try simp only [List.length_nil, Nat.zero_add]
          refine hown2.has.chg (S := fun k => k = lb) (Chg.set w2 lb 0 _) (fun g hg e => ?_)
          have := (hb2 g hg).1
          omega
        · intro g hg
          have := hb2 g hg
          refine ⟨by omega, by omega, by simp; omega⟩
  · have hp : 0 < cs.length := by omega
    obtain ⟨g, o, cap, hvs, _, _, _, hat⟩ := h.has.atB hp
    have k0 := hat (cs.length - 1) (by omega)
    obtain ⟨rfl, rfl⟩ : a = some ⟨g, o, none⟩ ∧ c = cap := by simpa using hvs
    rw [lastb_at cs hp] at hl
    rw [hl] at k0
    have hd : decide ((0 : Int) < (cs.length : Int)) = true := by simpa using hp
    clear hat h hvs hz hl
    go_enter Try.func8, Try.ntmps8
    go_wp2_with fail
    go_quiet (fail)
    go_wp2_with fail
    go_quiet (fail)
    go_wp2_with fail
    go_loopw [5] (fun i wr => ERel us i ∧ Chg w wr (fun _ => False)) (fun i _ => us.length - (intOf i).toNat)
    case atStart => exact ⟨⟨0, .inr hu, rfl, fun j _ h => absurd h (by omega)⟩, by repeat (first | exact Chg.refl _ _ | assumption | refine Chg.drewN ?_ _ | refine Chg.drew ?_ | refine Chg.alloc ?_ _)⟩
    case round =>
      obtain ⟨⟨k, hk, rfl, hno⟩, hc⟩ := hrel
      by_cases hlt : k + 1 < us.length
      · have k0 := hc.cell (hat2 k (by omega)) (fun h => h)
        have hb := earlyb_no HE.out k hlt
        rw [hb] at k0
        have HN := Lib.hid hno
        have HB := Lib.hid hb
        clear hno hb
        go_wp2_with fail
        go_roundw
        case rel =>
          refine ⟨⟨k + 1, .inr hlt, by go_num, fun j hj hjk => ?_⟩, hc⟩
          by_cases e : j = k
          · subst e; exact HB.out
          · exact HN.out j hj (by omega)
        case measure => simp [intOf]; omega
      · clear hno hat2
        have hH := HH.out.chg hc (fun h => h) (fun _ _ h => h)
        have q0 := hH.c0
        have ql := hH.lt
        have hsz := hc.size
        go_wp2_with (at_builtin; go_must (refine wpList_app _ rfl _ _ 28 28 rfl wr.heap.size 4 i0 _ 1 1 Try.underlying28 hi hz0 hz1 hz2 rfl _ 0 [] rfl ?own _ cs.length (bcs cs) rfl ?src ?c1 ?c2 ?c3 ?_))
        case own => exact Own.new (cs := #[]) (by omega) rfl (by decide)
        case src => exact (hH.has.chg (S := fun _ => False) (by repeat (first | exact Chg.refl _ _ | assumption | refine Chg.drewN ?_ _ | refine Chg.drew ?_ | refine Chg.alloc ?_ _)) (fun _ _ h => h)).src Try.underlying28 (bcs_one _)
        case c1 => simp [maxLen]; try omega
        case c2 => simp; try omega
        case c3 => simp
        intro a1 c1 w1 hown1 hchg1 hat1
        try simp only [Nat.zero_add, List.nil_append] at hown1
        have hw1 : Chg wr w1 (fun _ => False) := by
          have hA : Chg wr (wr.alloc (Obj.cells #[] 4)) (fun _ => False) := (Chg.refl _ _).alloc _
          refine ⟨hchg1.os.trans hA.os, hchg1.tape.trans hA.tape, hchg1.output.trans hA.output, Nat.le_trans hA.size hchg1.size, fun k hk hn => (hchg1.block k (Nat.lt_of_lt_of_le hk hA.size) (fun e => ?_)).trans (hA.block k hk hn)⟩
          simp [Value.ownBlock] at e; omega
        have hH1 := hH.chg hw1 (fun h => h) (fun _ _ h => h)
        have hV1 := (HV.out.chg hc (fun _ _ h => h)).chg hw1 (fun _ _ h => h)
        have p0 := hH1.c0
        have p1 := hH1.fr 0
        have pl := hH1.lt
        go_wp2_with (at_builtin; go_must (refine wpList_app _ rfl _ _ 28 28 rfl wr.heap.size 4 i0 _ 1 1 Try.underlying28 hi hz0 hz1 hz2 rfl _ cs.length (bcs cs) rfl ?own2 _ us.length (bcs us) rfl ?src2 ?d1 ?d2 ?d3 ?_))
        case own2 => exact hown1
        case src2 => exact hV1.src Try.underlying28 (bcs_one _)
        case d1 => simp [maxLen]; try omega
        case d2 => simp; try omega
        case d3 => exact hw1.size
        intro a2 c2' w2 hown2 hchg2 hat2
        have hb1 := hown1.lt
        have hb2 := hown2.lt
        have hw2 : Chg wr w2 (fun _ => False) := ⟨hchg2.os.trans hw1.os, hchg2.tape.trans hw1.tape, hchg2.output.trans hw1.output, Nat.le_trans hw1.size hchg2.size, fun k hk hn => (hchg2.block k (Nat.lt_of_lt_of_le hk hw1.size) (fun e => by have := (hb1 k e).1; omega)).trans (hw1.block k hk hn)⟩
        have hH2 := hH.chg hw2 (fun h => h) (fun _ _ h => h)
        have r0 := hH2.c0
        have r1 := hH2.fr 0
        have rl := hH2.lt
        clear p0 p1 q0
        go_wp2_with fail
        go_ret
        refine ⟨rfl, ?_, _, ⟨HH.out.ge, by rw [heap_set hH2.blk]; rfl, ?_, ?_⟩, fun g hg => Nat.le_trans hsz (hb2 g hg).1⟩
        · refine Chg.setCell ((hc.trans hw2).mono (fun _ _ h => h.elim)) ?_ _
          exact .inr rfl
        · rw [bcs_append, List.length_append]
          try simp only [List.length_nil, Nat.zero_add]
          refine hown2.has.chg (S := fun k => k = lb) (Chg.set w2 lb 0 _) (fun g hg e => ?_)
          have := (hb2 g hg).1
          omega
        · intro g hg
          have := hb2 g hg
          refine ⟨by omega, by omega, by simp; omega⟩
end
end Go.Proofs.Ythncigahodannaa
