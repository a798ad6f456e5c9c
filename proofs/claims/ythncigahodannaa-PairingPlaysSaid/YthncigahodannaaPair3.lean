/- pairing: Push. -/
import Derived.Test.YthncigahodannaaPair2
namespace Go.Proofs.Ythncigahodannaa
open Go.RowKit

set_option maxHeartbeats 400000 in
theorem push_state {w : World} {base qb : Nat} {v v2 : Value} {ts : List (ByteArray × Int × Bool)} {most : Int} (h : Qat w base qb v ts most true) :
    Calls Try.prog 7 #[.pointer (some ⟨qb, 0, none⟩), v2] w fun e w' => e = .returned (.int .i64 8) ∧ w = w' := by
  have h2 := h.c2
  go_enter Try.func7, Try.ntmps7
  go_wp2_with fail
  go_ret
  exact ⟨rfl, rfl⟩

set_option maxHeartbeats 400000 in
theorem push_full {w : World} {base qb : Nat} {v v2 : Value} {ts us : List (ByteArray × Int × Bool)} {most : Int} (h : Qat w base qb v ts most false) (hv2 : Has w 3 v2 us.length (tcs us))
    (hm : 0 ≤ most) (hm2 : most ≤ 64) (hn : ts.length ≤ 64) (hf : most - ts.length < us.length) :
    Calls Try.prog 7 #[.pointer (some ⟨qb, 0, none⟩), v2] w fun e w' => e = .returned (.int .i64 10) ∧ Chg w w' (fun _ => False) := by
  obtain ⟨a2, c2, rfl, _, hmx⟩ := hv2.slice
  unfold maxLen at hmx
  have h2 := h.c2
  go_enter Try.func7, Try.ntmps7
  go_wp2_with fail
  refine (room_any h hm hm2 hn).mono ?_; rintro e w1 ⟨rfl, n, rfl⟩
  go_wp2_with fail
  go_ret
  exact ⟨rfl, (Chg.refl _ _).drewN _⟩

set_option maxHeartbeats 400000 in
theorem push_early {w : World} {base qb : Nat} {v v2 : Value} {ts us : List (ByteArray × Int × Bool)} {most : Int} (h : Qat w base qb v ts most false) (hv2 : Has w 3 v2 us.length (tcs us))
    (hm : 0 ≤ most) (hm2 : most ≤ 64) (hn : ts.length ≤ 64) (hf : us.length ≤ most - ts.length) (he : earlyB us = true) :
    Calls Try.prog 7 #[.pointer (some ⟨qb, 0, none⟩), v2] w fun e w' => e = .returned (.int .i64 8) ∧ Chg w w' (fun _ => False) := by
  obtain ⟨a2, c2, rfl, _, hmx⟩ := hv2.slice
  unfold maxLen at hmx
  have h2 := h.c2
  have hea := fun n => early_any (hv2.chg ((Chg.refl w (fun _ => False)).drewN n) (fun _ _ h => h))
  rw [he] at hea
  clear he
  have hnf : ¬ most - ts.length < us.length := by omega
  go_enter Try.func7, Try.ntmps7
  go_wp2_with fail
  refine (room_any h hm hm2 hn).mono ?_; rintro e w1 ⟨rfl, n, rfl⟩
  go_wp2_with fail
  refine (hea n).mono ?_; rintro e w2 ⟨rfl, hc⟩
  go_wp2_with fail
  go_ret
  exact ⟨rfl, ((Chg.refl _ _).drewN _).trans hc⟩

def lastB (us : List (ByteArray × Int × Bool)) : Bool := (us.getLast?.map (·.2.2)).getD false

set_option maxHeartbeats 800000 in
theorem push_ok {w : World} {base qb : Nat} {v v2 : Value} {ts us : List (ByteArray × Int × Bool)} {most : Int} (h : Qat w base qb v ts most false) (hv2 : Has w 3 v2 us.length (tcs us))
    (hm : 0 ≤ most) (hm2 : most ≤ 64) (hn : ts.length ≤ 64) (hf : us.length ≤ most - ts.length) (he : earlyB us = false) (hd : ∀ g, v2.ownBlock = some g → g ≠ qb ∧ v.ownBlock ≠ some g) :
    Calls Try.prog 7 #[.pointer (some ⟨qb, 0, none⟩), v2] w fun e w' => e = .returned (.int .i64 0) ∧ Chg w w' (fun k => k = qb ∨ v.ownBlock = some k) ∧
      ∃ v', Qat w' base qb v' (ts ++ us) most (lastB us) ∧ (v'.ownBlock = v.ownBlock ∨ ∃ g, v'.ownBlock = some g ∧ w.heap.size ≤ g) := by
  obtain ⟨a2, c2, rfl, _, hmx⟩ := hv2.slice
  unfold maxLen at hmx
  have h2 := h.c2
  have hea := fun n => early_any (hv2.chg ((Chg.refl w (fun _ => False)).drewN n) (fun _ _ h => h))
  rw [he] at hea
  clear he
  have hnf : ¬ most - ts.length < us.length := by omega
  go_enter Try.func7, Try.ntmps7
  go_wp2_with fail
  refine (room_any h hm hm2 hn).mono ?_; rintro e w1 ⟨rfl, n, rfl⟩
  go_wp2_with fail
  refine (hea n).mono ?_; rintro e w2 ⟨rfl, hc⟩
  clear hea
  have hw : Chg w w2 (fun _ => False) := ((Chg.refl _ _).drewN _).trans hc
  have q2 := h.chg hw (fun h => h) (fun _ _ h => h)
  have v22 := hv2.chg hw (fun _ _ h => h)
  go_wp2_with fail
  refine (put_any q2 v22 (by omega)).mono ?_; rintro e w3 ⟨rfl, hc3, v', q3, hv'⟩
  have v23 := v22.chg hc3 (fun g hg => by have := hd g hg; intro e; rcases e with e | e; exact this.1 e; exact this.2 e)
  have q32 := q3.c2
  have q3f := q3.fr 2
  have q3l := q3.lt
  have hcc : Chg w w3 (fun k => k = qb ∨ v.ownBlock = some k) := (hw.mono (fun _ _ h => h.elim)).trans hc3
  have hv'' : v'.ownBlock = v.ownBlock ∨ ∃ g, v'.ownBlock = some g ∧ w.heap.size ≤ g := by
    rcases hv' with e | ⟨g, e, hg⟩
    · exact .inl e
    · exact .inr ⟨g, e, Nat.le_trans hw.size hg⟩
  clear hv' hd
  by_cases hu : us.length = 0
  · have hu' : us = [] := List.eq_nil_of_length_eq_zero hu
    subst hu'
    go_wp2_with fail
    go_ret
    exact ⟨rfl, hcc.setCell (.inr (.inl rfl)) _, v', q3.put2 false, hv''⟩
  · have hp : 0 < us.length := by omega
    obtain ⟨g, o, cap, hvs, _, _, _, hat⟩ := v23.at3 hp
    obtain ⟨k0, k1, k2⟩ := hat (us.length - 1) (by omega)
    obtain ⟨rfl, rfl⟩ : a2 = some ⟨g, o, none⟩ ∧ c2 = cap := by simpa using hvs
    have hlb : lastB us = us[us.length - 1].2.2 := by
      unfold lastB
      rw [List.getLast?_eq_getElem?, List.getElem?_eq_getElem (by omega)]
      rfl
    have HL := Lib.hid hlb
    clear hlb hat
    go_wp2_with fail
    go_ret
    exact ⟨rfl, hcc.setCell (.inr (.inl rfl)) _, v', by rw [HL.out]; exact q3.put2 _, hv''⟩
end Go.Proofs.Ythncigahodannaa
