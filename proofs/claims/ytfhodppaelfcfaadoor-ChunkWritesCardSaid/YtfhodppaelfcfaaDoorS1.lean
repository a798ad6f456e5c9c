/- The classes of bytes and the scanner, over abstract values. No statement of its own. -/
import Derived.Test.YtfhodppaelfcfaaDoorTab
import Derived.Test.YtfhodppaelfcfaaDoorPl
import Derived.Test.YtfhodppaelfcfaaDoorShelf
set_option maxRecDepth 100000
namespace Go.Proofs.YtfhodppaelfcfaaDoor
open Go.RowKit
theorem mixed : Tryd.prog.follows .mixedOrders = true := by kernel_rfl

theorem retb {x y : Bool} (h : x = y) : (AV.b x).stripR = AV.b y := by rw [h]; rfl
theorem reti {k : IntKind} {x y : Int} (h : x = y) : (AV.int k x).stripR = AV.int k y := by rw [h]; rfl
theorem rets {x y : ByteArray} (h : x = y) : (AV.s x).stripR = AV.s y := by rw [h]; rfl

/-- an older contract over plain values -/
theorem APure.of_lits {P : Program} {f : FuncId} (vs : Array Value) {v : Value} {r : AV} (hr : r = .lit v ∨ ∃ us : List Value, v = .tuple us.toArray ∧ r = .tup (us.map AV.lit)) (hd : r.datR = true) (hcall : ∀ zs w, (callFunc f zs).run P w = .ok (.enter f zs) w)
    (h : ∀ w, LaidW w → Calls P f vs w fun e w' => e = .returned v ∧ Below w.heap.size w w') : APure P f (vs.toList.map AV.lit) r [] := by
  refine ⟨AV.res_of_datR hd, hcall, fun J w zs hw hl ha => ?_⟩
  have has : zs = vs := by
    apply Array.ext
    · simpa using hl.symm
    · intro i h1 h2
      have := ha i (.lit vs[i]) zs[i] (by simp [h2]) (by simp [h1])
      exact this.of_lit
  subst has
  refine (h w (hw w (.refl _ _))).mono ?_
  rintro e w' ⟨rfl, hb⟩
  refine ⟨v, fun _ => ⟨0, 0, 0⟩, rfl, ⟨⟨Nat.le_refl _, hw⟩, hb, fun p cs h => by simp at h, fun p q h => by simp at h, fun t e h => by simp at h⟩, ?_⟩
  rcases hr with rfl | ⟨us, rfl, rfl⟩
  · exact .lit _
  · refine .tup _ _ (by simp) (fun j a u h1 h2 => ?_)
    simp only [List.getElem?_map, Option.map_eq_some_iff] at h1
    obtain ⟨x, hx, rfl⟩ := h1
    simp [hx] at h2
    subst h2
    exact .lit _

theorem isDigit_p (n : Int) : APure Tryd.prog 113 [.int .u8 n] (.b (digI n)) [] := by
  refine APure.of rfl (ACalls.of_vc T_ok mixed Tryd.func113 rfl Tryd.call113 ?_)
  unfold digI
  refine cnd_split (fun h => ?_) (fun h => ?_)
  · exact retb (by rw [show decide (48 ≤ n) = true from h]; rfl)
  · exact retb (by rw [show decide (48 ≤ n) = false from h]; rfl)
theorem lower_p (n : Int) (h0 : 0 ≤ n) (h1 : n ≤ 255) : APure Tryd.prog 114 [.int .u8 n] (.int .u8 (lowI n)) [] := by
  refine APure.of rfl (ACalls.of_vc T_ok mixed Tryd.func114 rfl Tryd.call114 ?_)
  unfold lowI
  refine cnd_split (fun h => ?_) (fun h => ?_)
  · refine cnd_split (fun h2 => ?_) (fun h2 => ?_)
    · intro c hc
      have h := of_decide_eq_true h
      have h2 := of_decide_eq_true h2
      exact reti (by rw [if_pos ⟨by omega, by omega⟩, hc]; exact IntWalk.u8_in _ (by omega))
    · have h2 := of_decide_eq_false h2
      exact reti (by rw [if_neg (by omega)])
  · have h := of_decide_eq_false h
    exact reti (by rw [if_neg (by omega)])
theorem isAlpha_p (n : Int) (h0 : 0 ≤ n) (h1 : n ≤ 255) : APure Tryd.prog 167 [.int .u8 n] (.b (alpI n)) [] := by
  refine APure.of rfl (ACalls.of_vc T_ok mixed Tryd.func167 rfl Tryd.call167 ?_)
  unfold alpI
  refine .p rfl (lower_p n h0 h1) ?_
  refine cnd_split (fun h => ?_) (fun h => ?_)
  · refine .p rfl (lower_p n h0 h1) ?_
    exact retb (by rw [show decide (97 ≤ lowI n) = true from h]; rfl)
  · exact retb (by rw [show decide (97 ≤ lowI n) = false from h]; rfl)
theorem isBlank_p (n : Int) : APure Tryd.prog 137 [.int .u8 n] (.b (blkI n)) [] := by
  refine APure.of rfl (ACalls.of_vc T_ok mixed Tryd.func137 rfl Tryd.call137 ?_)
  unfold blkI
  refine cnd_split (fun h => ?_) (fun h => ?_)
  · exact retb (by rw [show (n == 32) = true from h]; rfl)
  · exact retb (by rw [show (n == 32) = false from h]; rfl)
theorem isVisible_p (n : Int) : APure Tryd.prog 136 [.int .u8 n] (.b (visI n)) [] := by
  refine APure.of rfl (ACalls.of_vc T_ok mixed Tryd.func136 rfl Tryd.call136 ?_)
  unfold visI
  refine cnd_split (fun h => ?_) (fun h => ?_)
  · exact retb (by rw [show decide (32 < n) = true from h]; rfl)
  · exact retb (by rw [show decide (32 < n) = false from h]; rfl)
theorem isValue_p (n : Int) : APure Tryd.prog 92 [.int .u8 n] (.b (valI n)) [] := by
  refine APure.of rfl (ACalls.of_vc T_ok mixed Tryd.func92 rfl Tryd.call92 ?_)
  unfold valI
  refine .p rfl (isVisible_p n) ?_
  refine cnd_split (fun h => ?_) (fun h => ?_)
  · exact retb (by rw [h]; rfl)
  · rw [h]
    refine .p rfl (isBlank_p n) ?_
    refine cnd_split (fun h => ?_) (fun h => ?_)
    · exact retb (by rw [h]; rfl)
    · exact retb (by rw [h]; rfl)
theorem indexByte_p (s : ByteArray) (c : Int) : APure Tryd.prog 186 [.s s, .int .u8 c] (.i (Lib.indexByte s.data.toList c.toNat.toUInt8)) [] := by
  refine APure.of_lits #[.string s, .int .u8 c] (.inl rfl) rfl Tryd.call186 fun w _ => (Tryd.strings_IndexByte s c w).mono ?_
  rintro e w' ⟨rfl, rfl⟩
  exact ⟨rfl, .refl _ _⟩
end Go.Proofs.YtfhodppaelfcfaaDoor
