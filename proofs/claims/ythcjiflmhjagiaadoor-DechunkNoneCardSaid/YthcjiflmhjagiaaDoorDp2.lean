/- The law of a nil decoder, and of a line that is too long. No statement of its own. -/
import Derived.Test.YthcjiflmhjagiaaDoorDo
set_option linter.unusedSimpArgs false
set_option linter.unusedVariables false
set_option maxRecDepth 100000
namespace Go.Proofs.YthcjiflmhjagiaaDoor
open Go.RowKit
theorem readW_plain : ∀ (l : List UInt8) (k : Nat) (rest : List UInt8), (∀ b ∈ l, b ≠ 10 ∧ b ≠ 13) → k ≤ 4098 → readW none k false (l ++ rest) = if k + l.length ≤ 4098 then readW none (k + l.length) false rest else (0, 4099, 3)
  | [], k, rest, _, hk => by rw [if_pos (by simpa using hk)]; rfl
  | b :: l, k, rest, hb, hk => by
    have h0 := hb b List.mem_cons_self
    have hn : ¬ ∃ m : Nat, (none : Option Nat) = some m ∧ m < k + 1 := fun ⟨m, e, _⟩ => by cases e
    rw [List.cons_append, readW]
    by_cases h : 4098 ≤ k
    · rw [if_pos (.inl h), if_neg (by simp; omega)]
      have : k = 4098 := by omega
      rw [this]
    · rw [if_neg (fun e => e.elim h hn), if_neg (by rw [decide_eq_false h0.1]; exact fun e => e rfl), if_neg h0.1, decide_eq_false h0.2, readW_plain l (k + 1) rest (fun c hc => hb c (List.mem_cons_of_mem _ hc)) (by omega)]
      have e : k + 1 + l.length = k + (b :: l).length := by simp; omega
      rw [e]
theorem zeros_run (a : Nat) (r : List UInt8) (hr : r = List.replicate a 48 ++ [49, 13]) : (4098 < a + 2 → ∃ X, runD 10 Dc.new r = ⟨4099, [], false, 3, X⟩) ∧ (a + 2 ≤ 4098 → runD 10 Dc.new r = ⟨a + 2, [], false, 0, Dc.new.put r⟩) := by
  have hl : limD 10 Dc.new = none := rfl
  have hw := readW_plain (List.replicate a 48 ++ [49]) 0 [13] (fun b hb => by
    rcases List.mem_append.1 hb with hb | hb
    · rw [(List.mem_replicate.1 hb).2]; decide
    · rw [List.mem_singleton.1 hb]; decide) (by decide)
  have hrr : List.replicate a (48 : UInt8) ++ [49] ++ [13] = r := by rw [hr]; simp
  have hlen : r.length = a + 2 := by rw [hr]; simp
  rw [hrr, List.length_append, List.length_replicate] at hw
  have hw : readW none 0 false r = if 0 + (a + 1) ≤ 4098 then readW none (0 + (a + 1)) false [13] else (0, 4099, 3) := hw
  have h := line_run (L := 10) (d := Dc.new) (.inl rfl) rfl (by decide) r
  rw [hl] at h
  have hn : ∀ k : Nat, ¬ ∃ m : Nat, (none : Option Nat) = some m ∧ m < k + 1 := fun k ⟨m, e, _⟩ => by cases e
  constructor
  · intro hb
    have e : readW none 0 false r = (0, 4099, 3) := by
      rw [hw]
      split
      · rename_i h1
        rw [readW, if_pos (.inl (by omega)), show 0 + (a + 1) = 4098 by omega]
      · rfl
    rw [e] at h
    rcases h with ⟨B, E, X, h1, _, _, _, h2, _⟩ | ⟨h1, _⟩ | ⟨N, h1, _⟩
    · cases h1
      exact ⟨X, h2⟩
    · cases h1
    · cases h1
  · intro hb
    have e : readW none 0 false r = (0, 0, 0) := by
      rw [hw, if_pos (by omega)]
      rw [readW, if_neg (fun e => e.elim (by omega) (hn _)), if_neg (by decide), if_neg (by decide)]
      rfl
    rw [e] at h
    rcases h with ⟨B, E, X, h1, h3, _, _, h2, _⟩ | ⟨_, h2⟩ | ⟨N, h1, h3, _⟩
    · cases h1
      exact absurd h3 (by decide)
    · rw [hlen] at h2; exact h2
    · cases h1
      exact absurd h3 (by decide)
set_option maxHeartbeats 1000000 in
theorem dechunkNone_p (s0 : ByteArray) (w : Int) (hw : 0 ≤ w ∧ w < 65536) : APure Tryd.prog 9 [.s s0, .int .u16 w] (.b true) [] := by
  have hmx : maxLen = 9223372036854775807 := rfl
  obtain ⟨w, rfl⟩ := Int.eq_ofNat_of_zero_le hw.1
  refine APure.of rfl ?_
  refine ACalls.of_vc T_ok mixed Tryd.func9 rfl Tryd.call9 ?_
  refine .p rfl awake19_p ?_
  refine .s (feed_nil ?_)
  intro t ht
  obtain rfl := ht.2 rfl
  refine .s (keptD_nil ?_)
  refine .s (trlD_nil ?_)
  intro c hc
  rw [IntWalk.i64_in _ (by omega)] at hc
  obtain rfl : c = ((0 : Nat) : Int) := by omega
  refine .s (newD_a 10 (fun h => absurd h (by omega)) (fun m2 hm2 hm3 => ?_))
  obtain rfl : m2 = 10 := by omega
  intro c hc
  rw [IntWalk.i64_in _ (by omega)] at hc
  subst hc
  refine ⟨by decide, ?_⟩
  have ha : (w : Int).tmod 5000 = ((w % 5000 : Nat) : Int) := rfl
  have ha2 : w % 5000 < 5000 := Nat.mod_lt _ (by decide)
  generalize w % 5000 = a at ha ha2
  refine ⟨a, a, ha, ha, Nat.le_refl _, by omega, by show a * 1 ≤ _; omega, ?_⟩
  refine vc_loop [60] (fun g vals st' => ∃ (i : Nat) (cs : List AV), i + g = a ∧ vals = [.i i] ∧ st'.heap = [dcC 10 Dc.new .nilS .nilS, cs] ∧ cs.length = a ∧ ∀ j, j < i → cs[j]? = some (.u8 48)) a rfl ⟨0, _, by omega, rfl, rfl, by show (zerosL _ a).length = a; rw [zerosL_len]; show a * 1 = a; omega, fun j h => absurd h (by omega)⟩ ?_
  rintro g vals st' ⟨i, cs, hi, rfl, hh, hcl, hcs⟩
  have h1 : st'.heap[1]? = some cs := by rw [hh]; rfl
  have h0 : st'.heap[0]? = some (dcC 10 Dc.new .nilS .nilS) := by rw [hh]; rfl
  refine cnd_split (fun hd => ?_) (fun hd => ?_)
  · have hd := of_decide_eq_true hd
    have i1 : i < a := by omega
    refine ⟨i, rfl, i1, ?_⟩
    refine ⟨_, h1, st_u8 (by show 0 + i * 1 + 1 ≤ _; omega) ?_⟩
    intro c hc
    rw [IntWalk.i64_in _ (by omega)] at hc
    obtain rfl : c = ((i + 1 : Nat) : Int) := by omega
    refine ⟨g - 1, by omega, i + 1, _, by omega, rfl, by rw [hh]; rfl, by rw [List.length_set]; exact hcl, fun j hj => ?_⟩
    show (cs.set (0 + i * 1) (.u8 48))[j]? = _
    rw [List.getElem?_set]
    split
    · rw [if_pos (by omega)]
    · exact hcs j (by omega)
  · have hd := of_decide_eq_false hd
    obtain ⟨b, hb⟩ : ∃ b : ByteArray, b = toB (List.replicate a 48) := ⟨_, rfl⟩
    have hbs : b.size = a := by rw [hb, toB_size, List.length_replicate]
    have hbl : b.data.toList = List.replicate a 48 := by rw [hb, toB_l]
    refine ⟨_, b, h1, hbs, fun j hj => ?_, ?_⟩
    · rw [Nat.zero_add, hcs j (by omega)]
      have : b.data.toList[j]? = some b[j] := at_lt hj
      rw [hbl, List.getElem?_replicate, if_pos (by omega)] at this
      rw [← Option.some.inj this]
    have hsz : (b ++ ⟨#[49, 13]⟩ : ByteArray).size = a + 2 := by rw [app_size, hbs]; rfl
    refine ⟨by rw [hbs]; show a + 2 ≤ _; omega, ?_⟩
    obtain ⟨u, hu⟩ : ∃ u, u = (b ++ ⟨#[49, 13]⟩ : ByteArray) := ⟨_, rfl⟩
    rw [← hu] at hsz ⊢
    have hz := zeros_run a u.data.toList (by rw [hu, app_l', hbl])
    have hDI : DI st' 0 10 Dc.new .nilS .nilS := ⟨h0, .nil, .nil, fun t h => (by cases h), fun t h => (by cases h)⟩
    refine .s (feed_a hDI (Dc.new_In 10) (by decide) (by decide) u (by omega) (fun st2 ln' tr' o x hx ho kp hdi => ?_))
    intro c hc
    rw [IntWalk.i64_in _ (by omega)] at hc
    obtain rfl : c = ((a + 3 : Nat) : Int) := by omega
    by_cases h98 : a + 2 ≤ 4098
    · have hx := hx.symm.trans (hz.2 h98)
      subst hx
      have hkl : (Dc.new.put u.data.toList).line.length = a + 2 := by show ([] ++ u.data.toList).length = _; rw [List.nil_append, blen, hsz]
      refine cnd_split (fun _ => ?_) (fun _ => ?_)
      · skip
        intro c hc
        rw [IntWalk.i64_in _ (by omega)] at hc
        obtain rfl : c = ((a + 2 : Nat) : Int) := by omega
        refine cnd_split (fun h => absurd (of_decide_eq_true h) (by omega)) (fun _ => ?_)
        intro c hc
        rw [IntWalk.i64_in _ (by omega)] at hc
        obtain rfl : c = ((a + 2 : Nat) : Int) := by omega
        refine cnd_split (fun _ => ?_) (fun h => absurd rfl (beq_eq_false_iff_ne.1 h))
        refine .s (keptD_a hdi ?_)
        refine retb (beq_iff_eq.2 ?_)
        exact congrArg (fun n : Nat => (n : Int)) hkl
      · skip
        intro c hc
        rw [IntWalk.i64_in _ (by omega)] at hc
        obtain rfl : c = ((a + 2 : Nat) : Int) := by omega
        refine cnd_split (fun _ => ?_) (fun h => absurd rfl (beq_eq_false_iff_ne.1 h))
        refine .s (keptD_a hdi ?_)
        refine retb (beq_iff_eq.2 ?_)
        exact congrArg (fun n : Nat => (n : Int)) hkl
    · obtain ⟨X, hX⟩ := hz.1 (by omega)
      have hx := hx.symm.trans hX
      subst hx
      refine cnd_split (fun _ => ?_) (fun h => absurd (by omega) (of_decide_eq_false h))
      intro c hc
      rw [IntWalk.i64_in _ (by omega)] at hc
      obtain rfl : c = ((a + 2 : Nat) : Int) := by omega
      refine cnd_split (fun _ => ?_) (fun h => absurd (by omega) (of_decide_eq_false h))
      rfl
end Go.Proofs.YthcjiflmhjagiaaDoor
