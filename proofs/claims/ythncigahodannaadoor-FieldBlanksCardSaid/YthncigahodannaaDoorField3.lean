/- fieldline.Text; the reference's Trim. -/
import Derived.Test.YthncigahodannaaDoorField2
import Derived.Test.YthncigahodannaaDoorRef1
namespace Go.Proofs.YthncigahodannaaDoor
open Go.RowKit

def textF (f : Fld) : ByteArray × Int := if checkF f ≠ 0 then (.empty, checkF f) else if f.2.size = 0 then (f.1 ++ ⟨#[58]⟩, 0) else (f.1 ++ ⟨#[58, 32]⟩ ++ f.2, 0)

set_option maxHeartbeats 1000000 in
theorem fText_any (a b : ByteArray) (ha : a.size ≤ 1000000) (hb : b.size ≤ 1000000) (w : World) :
    Calls Tryd.prog 10 #[.agg #[.string a, .string b]] w fun e w' => e = .returned (.tuple #[.string (textF (a, b)).1, .int .i64 (textF (a, b)).2]) ∧ Chg w w' (fun _ => False) := by
  have hC := fun W => fCheck_any a b ha hb W
  have hp : textF (a, b) = if checkF (a, b) ≠ 0 then (.empty, checkF (a, b)) else if b.size = 0 then (a ++ ⟨#[58]⟩, 0) else (a ++ ⟨#[58, 32]⟩ ++ b, 0) := rfl
  generalize checkF (a, b) = c at *
  have HP := Lib.hid hp
  clear hp
  go_enter Tryd.func10, Tryd.ntmps10
  go_wp2_with fail
  refine (hC _).mono ?_; rintro e w1 ⟨rfl, hc⟩
  have hr := (B2.new w (.string a) (.string b) 25).chg hc (fun h => h)
  have hw : Chg w w1 (fun _ => False) := ((Chg.refl w (fun _ => False)).alloc _).trans hc
  clear hc hC
  cases hc0 : (c != 0)
  · have hp := HP.out
    rw [if_neg (by rw [bne_eq_false_iff_eq] at hc0; simp [hc0])] at hp
    have r0 := hr.c0
    have r1 := hr.c1
    have rl := hr.lt
    by_cases hb0 : b.size = 0
    · have hz := empB0 hb0
      rw [if_pos hb0] at hp
      have HQ := Lib.hid hp
      clear hp hb0
      go_wp2_with fail
      go_ret2
      exact ⟨by rw [HQ.out]; rfl, hw⟩
    · have hz := empB1 (s := b) (by omega)
      rw [if_neg hb0] at hp
      have HQ := Lib.hid hp
      clear hp hb0
      go_wp2_with fail
      go_ret2
      exact ⟨by rw [HQ.out]; rfl, hw⟩
  · have hp := HP.out
    rw [if_pos (by rw [bne_iff_ne] at hc0; exact hc0)] at hp
    have HQ := Lib.hid hp
    clear hp
    go_wp2_with fail
    go_ret2
    exact ⟨by rw [HQ.out]; rfl, hw⟩

/-! the reference's Trim -/
def rt (p : UInt8 → Bool) (l : List UInt8) : List UInt8 := (l.reverse.dropWhile p).reverse
theorem rt_cons (p : UInt8 → Bool) (x : UInt8) (r : List UInt8) : rt p (x :: r) = if rt p r = [] then (if p x then [] else [x]) else x :: rt p r := by
  unfold rt
  rw [List.reverse_cons, List.dropWhile_append]
  cases h : r.reverse.dropWhile p with
  | nil => cases hx : p x <;> simp [hx]
  | cons y t => simp
theorem rt_dw (p : UInt8 → Bool) (l : List UInt8) : rt p (l.dropWhile p) = (rt p l).dropWhile p := by
  induction l with
  | nil => rfl
  | cons x r ih =>
    rw [rt_cons]
    cases hx : p x
    · rw [List.dropWhile_cons_of_neg (by simp [hx]), rt_cons, hx]
      by_cases h : rt p r = [] <;> simp [h, hx]
    · rw [List.dropWhile_cons_of_pos hx, ih]
      by_cases h : rt p r = [] <;> simp [h, hx]
theorem dw_head {p : UInt8 → Bool} {l : List UInt8} (h : ∀ (hl : 0 < l.length), p l[0] = false) : l.dropWhile p = l := by
  cases l with
  | nil => rfl
  | cons x r => rw [List.dropWhile_cons_of_neg (by have := h (by simp); simpa using this)]
theorem rt_last {p : UInt8 → Bool} {l : List UInt8} (h : ∀ (hl : 0 < l.length), p (l[l.length - 1]'(by omega)) = false) : rt p l = l := by
  unfold rt
  rw [dw_head, List.reverse_reverse]
  intro hl
  rw [List.length_reverse] at hl
  rw [List.getElem_reverse]
  simpa using h hl

def blkP (x : UInt8) : Bool := blkI (x.toNat : Int)
theorem blkP_contains (x : UInt8) : ([32, 9] : List UInt8).contains x = blkP x := by
  have : ∀ n : Nat, n < 256 → ([32, 9] : List UInt8).contains (UInt8.ofNat n) = blkP (UInt8.ofNat n) := by decide +kernel
  have h := this x.toNat x.toNat_lt
  rwa [UInt8.ofNat_toNat] at h
theorem trimB_eq (s : ByteArray) : trimB s = ⟨(rt blkP (s.data.toList.dropWhile blkP)).toArray⟩ := by
  have e : (fun x => ([32, 9] : List UInt8).contains x) = blkP := funext blkP_contains
  unfold trimB Lib.trimS Lib.trimLeftS Lib.trimRightS
  rw [show (fun x => List.contains ([32, 9] : List UInt8) x) = blkP from e, rt_dw]
  rfl

theorem extB (s : ByteArray) (a b : Nat) : (s.extract a b).data.toList = (s.data.toList.take b).drop a := by
  rw [ByteArray.data_extract, Array.toList_extract, List.extract_eq_take_drop, List.drop_take]

theorem headB (u : ByteArray) (h : 0 < u.size) : u.data.toList = u[0] :: u.data.toList.drop 1 := by
  have hl := blen u
  cases hu : u.data.toList with
  | nil => rw [hu] at hl; simp at hl; omega
  | cons x r =>
    have e : u.data.toList[0]'(by omega) = u[0] := bget u 0 h
    simp only [hu, List.getElem_cons_zero] at e
    rw [← e]; rfl
theorem dropB1 (u : ByteArray) : (u.extract 1 u.size).data.toList = u.data.toList.drop 1 := by
  rw [extB, ← blen u, List.take_length]
theorem lastB1 (u : ByteArray) : (u.extract 0 (u.size - 1)).data.toList = u.data.toList.take (u.size - 1) := by
  rw [extB, List.drop_zero]
theorem rt_drop {p : UInt8 → Bool} {l : List UInt8} (hl : 0 < l.length) (h : p (l[l.length - 1]'(by omega)) = true) : rt p (l.take (l.length - 1)) = rt p l := by
  have e : l = l.take (l.length - 1) ++ [l[l.length - 1]'(by omega)] := by
    rw [← List.take_succ_eq_append_getElem (by omega), show l.length - 1 + 1 = l.length from by omega, List.take_length]
  conv => rhs; rw [e]
  unfold rt
  rw [List.reverse_append, List.reverse_cons, List.reverse_nil, List.nil_append, List.singleton_append, List.dropWhile_cons_of_pos h]
theorem mkB {s : ByteArray} {l : List UInt8} (h : s.data.toList = l) : s = ⟨l.toArray⟩ := by
  subst h
  exact ByteArray.ext (by simp)

set_option maxHeartbeats 1000000 in
theorem r6Trim_any (s : ByteArray) (hs : s.size ≤ maxLen) (w : World) :
    Calls Tryd.prog 24 #[.string s] w fun e w' => e = .returned (.string (trimB s)) ∧ w = w' := by
  have HT := Lib.hid (trimB_eq s)
  unfold maxLen at hs
  go_enter Tryd.func24, Tryd.ntmps24
  go_wp2_with fail
  go_loopg [0] s.size (fun g s0 wr => w = wr ∧ ∃ u : ByteArray, s0 = .string u ∧ u.size = g ∧ u.size ≤ s.size ∧ u.data.toList.dropWhile blkP = s.data.toList.dropWhile blkP)
  case atStart => exact ⟨rfl, s, rfl, rfl, Nat.le_refl _, rfl⟩
  case round =>
    obtain ⟨rfl, u, rfl, rfl, hus, hu⟩ := hrel
    have HU := Lib.hid hu
    clear hu
    by_cases h0 : 0 < u.size
    · have hB := r1Blank_any (u[0].toNat : Int) w
      cases hb : blkI (u[0].toNat : Int)
      · rw [hb] at hB
        have HL : Hid (u.data.toList = s.data.toList.dropWhile blkP) := by
          rw [← HU.out, headB u h0, List.dropWhile_cons_of_neg (by simp [blkP, hb])]
          rfl
        clear hb
        go_wp2_with fail
        refine hB.mono ?_; rintro e w1 ⟨rfl, rfl⟩
        go_wp2_with fail
        go_loopg [0] u.size (fun g s0 wr => w = wr ∧ ∃ v : ByteArray, s0 = .string v ∧ v.size = g ∧ v.size ≤ s.size ∧ rt blkP v.data.toList = rt blkP u.data.toList)
        case atStart => exact ⟨rfl, u, rfl, rfl, hus, rfl⟩
        case round =>
          obtain ⟨rfl, v, rfl, rfl, hvs, hv⟩ := hrel
          have HV := Lib.hid hv
          clear hv
          by_cases g0 : 0 < v.size
          · have hB2 := r1Blank_any ((v[v.size - 1]'(by omega)).toNat : Int) w
            have hl := blen v
            cases hb2 : blkI ((v[v.size - 1]'(by omega)).toNat : Int)
            · rw [hb2] at hB2
              have HE : Hid (trimB s = v) := by
                rw [HT.out, ← HL.out, ← HV.out]
                rw [rt_last (p := blkP) (l := v.data.toList) (fun h => by
                  simp only [hl]
                  exact hb2)]
                exact (mkB rfl).symm
              clear hb2
              go_wp2_with fail
              refine hB2.mono ?_; rintro e w1 ⟨rfl, rfl⟩
              go_wp2_with fail
              go_ret
              exact ⟨by rw [HE.out]; rfl, rfl⟩
            · rw [hb2] at hB2
              have HB2 : Hid (rt blkP (v.data.toList.take (v.size - 1)) = rt blkP v.data.toList) := by
                have := rt_drop (p := blkP) (l := v.data.toList) (by omega) (by simp only [hl]; exact hb2)
                rw [hl] at this
                exact this
              clear hb2
              go_wp2_with fail
              refine hB2.mono ?_; rintro e w1 ⟨rfl, rfl⟩
              go_wp2_with fail
              go_roundg (v.size - 1)
              case measure => omega
              case rel =>
                refine ⟨rfl, _, rfl, ?_, ?_, ?_⟩
                · rw [ext_size _ _ _ (by omega)]; omega
                · rw [ext_size _ _ _ (by omega)]; omega
                · rw [lastB1, HB2.out, HV.out]
          · have HE : Hid (trimB s = v) := by
              have hl := blen v
              have : v.data.toList = [] := List.eq_nil_of_length_eq_zero (by omega)
              rw [HT.out, ← HL.out, ← HV.out, this]
              exact (mkB this).symm
            go_wp2_with fail
            go_ret
            exact ⟨by rw [HE.out]; rfl, rfl⟩
      · rw [hb] at hB
        have HB : Hid (blkP u[0] = true) := hb
        clear hb
        go_wp2_with fail
        refine hB.mono ?_; rintro e w1 ⟨rfl, rfl⟩
        go_wp2_with fail
        go_roundg (u.size - 1)
        case measure => omega
        case rel =>
          refine ⟨rfl, _, rfl, ?_, ?_, ?_⟩
          · rw [ext_size _ _ _ (Nat.le_refl _)]
          · rw [ext_size _ _ _ (Nat.le_refl _)]; omega
          · rw [← HU.out, dropB1]
            conv => rhs; rw [headB u h0]
            rw [List.dropWhile_cons_of_pos HB.out]
    · have HL : Hid (u.data.toList = s.data.toList.dropWhile blkP) := by
        have hl := blen u
        have : u.data.toList = [] := List.eq_nil_of_length_eq_zero (by omega)
        rw [← HU.out, this]
        rfl
      · go_wp2_with fail
        go_loopg [0] u.size (fun g s0 wr => w = wr ∧ ∃ v : ByteArray, s0 = .string v ∧ v.size = g ∧ v.size ≤ s.size ∧ rt blkP v.data.toList = rt blkP u.data.toList)
        case atStart => exact ⟨rfl, u, rfl, rfl, hus, rfl⟩
        case round =>
          obtain ⟨rfl, v, rfl, rfl, hvs, hv⟩ := hrel
          have HV := Lib.hid hv
          clear hv
          by_cases g0 : 0 < v.size
          · have hB2 := r1Blank_any ((v[v.size - 1]'(by omega)).toNat : Int) w
            have hl := blen v
            cases hb2 : blkI ((v[v.size - 1]'(by omega)).toNat : Int)
            · rw [hb2] at hB2
              have HE : Hid (trimB s = v) := by
                rw [HT.out, ← HL.out, ← HV.out]
                rw [rt_last (p := blkP) (l := v.data.toList) (fun h => by
                  simp only [hl]
                  exact hb2)]
                exact (mkB rfl).symm
              clear hb2
              go_wp2_with fail
              refine hB2.mono ?_; rintro e w1 ⟨rfl, rfl⟩
              go_wp2_with fail
              go_ret
              exact ⟨by rw [HE.out]; rfl, rfl⟩
            · rw [hb2] at hB2
              have HB2 : Hid (rt blkP (v.data.toList.take (v.size - 1)) = rt blkP v.data.toList) := by
                have := rt_drop (p := blkP) (l := v.data.toList) (by omega) (by simp only [hl]; exact hb2)
                rw [hl] at this
                exact this
              clear hb2
              go_wp2_with fail
              refine hB2.mono ?_; rintro e w1 ⟨rfl, rfl⟩
              go_wp2_with fail
              go_roundg (v.size - 1)
              case measure => omega
              case rel =>
                refine ⟨rfl, _, rfl, ?_, ?_, ?_⟩
                · rw [ext_size _ _ _ (by omega)]; omega
                · rw [ext_size _ _ _ (by omega)]; omega
                · rw [lastB1, HB2.out, HV.out]
          · have HE : Hid (trimB s = v) := by
              have hl := blen v
              have : v.data.toList = [] := List.eq_nil_of_length_eq_zero (by omega)
              rw [HT.out, ← HL.out, ← HV.out, this]
              exact (mkB this).symm
            go_wp2_with fail
            go_ret
            exact ⟨by rw [HE.out]; rfl, rfl⟩
end Go.Proofs.YthncigahodannaaDoor
