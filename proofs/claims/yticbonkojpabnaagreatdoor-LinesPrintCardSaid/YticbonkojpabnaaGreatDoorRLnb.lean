/- Texts cut at blanks: by the program and by the document. No statement of its own. -/
import Derived.Test.YticbonkojpabnaaGreatDoorRLna
import Derived.Test.YticbonkojpabnaaGreatDoorRN1
import Derived.Test.YticbonkojpabnaaGreatDoorRShelg
import Derived.Lib.AppendIntMem
import Derived.Test.YticbonkojpabnaaGreatDoorRSm
set_option linter.unusedSimpArgs false
set_option linter.unusedVariables false
set_option maxRecDepth 100000
namespace Go.Proofs.YticbonkojpabnaaGreatDoor
open Go.RowKit
section
def wordsB (s : ByteArray) : List ByteArray := (cutL 32 s.data.toList).map fun l => ⟨l.toArray⟩
theorem split_words (s : ByteArray) : Lib.splitB ⟨#[32]⟩ 0 (Lib.countB s ⟨#[32]⟩) s = wordsB s := by
 have h1 := Lib.splitB_data ⟨#[32]⟩ 0 (Lib.countB s ⟨#[32]⟩) s
 have h2 : Lib.splitK (⟨#[32]⟩ : ByteArray).data.toList 0 (Lib.countB s ⟨#[32]⟩) s.data.toList = cutL 32 s.data.toList := splitK_cut 32 _ s.data.toList rfl
 rw [h2] at h1
 unfold wordsB
 rw [<- h1, List.map_map]
 conv => lhs; rw [<- List.map_id (Lib.splitB ⟨#[32]⟩ 0 (Lib.countB s ⟨#[32]⟩) s)]
 refine List.map_congr_left fun x _ => ?_
 rfl
theorem wordsB_len (s : ByteArray) : (wordsB s).length <= s.size + 1 := by
 have := cutL_len 32 s.data.toList
 rw [blen] at this
 unfold wordsB
 rw [List.length_map]
 exact this
theorem wordsB_size {s x : ByteArray} (h : x ∈ wordsB s) : x.size <= s.size := by
 unfold wordsB at h
 obtain ⟨l, hl, rfl⟩ := List.mem_map.1 h
 have := cutL_size 32 _ l hl
 rw [blen] at this
 show l.toArray.size <= _
 rw [List.size_toArray]
 exact this
theorem split32_p (s : ByteArray) (hs : s.size <= 4000000000) : APure Tryz.prog 38 [.s s, .s ⟨#[32]⟩] (.sl .no 1 (strL (wordsB s))) [] := by
 refine ⟨rfl, Tryz.call38, fun J w vs hw hlen ha => ?_⟩
 have hv : vs = #[.string s, .string ⟨#[32]⟩] := by
  apply Array.ext
  ·simpa using hlen.symm
  ·intro i h1 h2
   have h2' : i < 2 := by simpa using h2
   match i, h2' with
   | 0, _ =>
    have := (ha 0 _ vs[0] rfl (by simp [h1])).of_lit
    rw [this]; rfl
   | 1, _ =>
    have := (ha 1 _ vs[1] rfl (by simp [h1])).of_lit
    rw [this]; rfl
 subst hv
 obtain ⟨m, hm⟩ := (hw w (Below.refl _ _)).max
 refine (Tryz.strings_Split s ⟨#[32]⟩ m w (by omega) hm (by decide)).mono ?_
 rintro e w' ⟨rfl, rfl⟩
 have hl : (wordsB s).length = Lib.countB s ⟨#[32]⟩ + 1 := by rw [<- split_words]; exact Lib.splitB_all _ (by decide) 0 _ s rfl
 have hll := wordsB_len s
 have hmx : maxLen = 9223372036854775807 := rfl
 rw [split_words, <- hl]
 have hb : Below w.heap.size w (w.alloc (.cells ((wordsB s).map Value.string).toArray 9)) := (Below.refl _ w).alloc (Nat.le_refl _) _
 refine ⟨_, fun _ => ⟨0, 0, 0⟩, rfl, ⟨⟨Nat.le_refl _, hw⟩, hb, fun p cs h => by simp at h, fun p q h => by simp at h, fun t e h => by simp at h⟩, ?_⟩
 have hrow : Row w.heap.size J ⟨[], []⟩ (fun _ => 0) (fun _ => ⟨0, 0, 0⟩) (w.alloc (.cells ((wordsB s).map Value.string).toArray 9)) 1 (strL (wordsB s)) ((wordsB s).map Value.string) := by
  refine ⟨by rw [List.length_map, strL_len, Nat.mul_one], fun k e he => ?_, fun k e j a he ha => ?_⟩
  ·have := strL_el (wordsB s) e (List.mem_of_getElem? he)
   exact this
  ·unfold strL at he
   rw [List.getElem?_map, Option.map_eq_some_iff] at he
   obtain ⟨x, hx, rfl⟩ := he
   match j, ha with
   | 0, ha =>
    cases ha
    refine ⟨.string x, ?_, .lit _⟩
    rw [Nat.mul_one, Nat.add_zero, List.getElem?_map, hx]
    rfl
   | j + 1, ha => simp at ha
 have hsl := hrow.sl .no w.heap.size 0 (wordsB s).length (by rw [strL_len]; exact Nat.le_refl _) (by omega) (fun j u hu => ⟨⟨fun h => absurd h (Nat.lt_irrefl _), fun p hp => by simp at hp, fun t e ht => by simp at ht⟩, ?_⟩) (fun h => by cases h) (fun i e h => by cases h)
 ·rw [strL_len] at hsl
  exact hsl
 ·rw [cell_block (heap_alloc_new w _), List.getElem?_toArray, Nat.zero_add, hu]
def CutW (s : ByteArray) (acc : List ByteArray) (k : Nat) : Prop := acc.map (·.data.toList) ++ cutL 32 (s.data.toList.drop k) = cutL 32 s.data.toList
theorem CutW.fin {s : ByteArray} {acc : List ByteArray} {k : Nat} (h : CutW s acc k) (hk : k <= s.size) (hno : ∀ j (hj : j < s.size), k <= j -> j < s.size -> s[j] ≠ 32) : acc ++ [s.extract k s.size] = wordsB s := by
 have hl := blen s
 unfold CutW at h
 rw [cutL_miss (fun b hb => ?_)] at h
 ·unfold wordsB
  rw [<- h, List.map_append, List.map_map]
  have e1 : (fun l : List UInt8 => (⟨l.toArray⟩ : ByteArray)) ∘ (fun x : ByteArray => x.data.toList) = id := rfl
  rw [e1, List.map_id]
  refine congrArg (acc ++ ·) ?_
  show [s.extract k s.size] = [_]
  refine congrArg (fun x => [x]) (inL ?_)
  rw [cut_l]
 ·obtain ⟨j, hj, rfl⟩ := List.getElem_of_mem hb
  rw [List.length_drop] at hj
  rw [List.getElem_drop]
  exact hno (k + j) (by omega) (by omega) (by omega)
section
attribute [local irreducible] vcApp
end
end
section
attribute [local irreducible] vcApp
theorem itoa_p (n : Int) (h : inR n) : APure Tryz.prog 28 [.i n] (.s (numT n)) [] := by
 refine APure.of_lits #[.int .i64 n] (.inl rfl) rfl Tryz.call28 fun w hw => (Tryz.strconv_Itoa n h.1 h.2 w hw.2.1).mono ?_
 rintro e w' ⟨rfl, k, os, rfl⟩
 exact ⟨rfl, Lib.below_grow _ _ (Nat.le_refl _) _ _⟩
theorem formatInt_p (n : Int) (h : inR n) : APure Tryz.prog 178 [.i n, .i 10] (.s (numT n)) [] := by
 refine APure.of_lits #[.int .i64 n, .int .i64 10] (.inl rfl) rfl Tryz.call178 fun w hw => (Tryz.strconv_FormatInt_10 n h.1 h.2 w hw.2.1).mono ?_
 rintro e w' ⟨rfl, k, os, rfl⟩
 exact ⟨rfl, Lib.below_grow _ _ (Nat.le_refl _) _ _⟩
theorem numeralText_p (n : Int) (h : inR n) (h0 : 0 <= n) : APure Tryz.prog 98 [.i n] (.s (numT n)) [] := by
 have hp : APure Tryz.prog 139 [.i n, .i 10] (.s (numT n)) [] := by
  refine APure.of rfl (ACalls.of_vc T_ok mixed Tryz.func139 rfl Tryz.call139 ?_)
  refine cnd_split (fun hd => ?_) (fun _ => ?_)
  ·exact absurd (of_decide_eq_true hd) (by omega)
  refine .p rfl (formatInt_p n h) ?_
  exact rfl
 refine APure.of rfl (ACalls.of_vc T_ok mixed Tryz.func98 rfl Tryz.call98 ?_)
 refine .p rfl hp ?_
 exact rfl
theorem r3Text_p (n : Nat) (h : n < 2 ^ 63) : APure Tryz.prog 67 [.i n, .i 10] (.s (digB 10 n)) [] := by
 refine APure.of rfl (ACalls.of_vc T_ok mixed Tryz.func67 rfl Tryz.call67 ?_)
 refine .p rfl (r3Digits_p 10 (by decide) (by decide) n h) ?_
 exact rfl
theorem atoi_a {st : St} {R : AV -> St -> Prop} (t : ByteArray) (ht : t.size <= 1099511627776) (h1 : ∀ k, Lib.atoiAll t.data.toList = .ok k -> R (.tup [.i k, .lit .nilIface]) st)
  (h2 : (∀ k, Lib.atoiAll t.data.toList ≠ .ok k) -> ∀ n ty v, R (.tup [.i n, .lit (.iface ty v)]) st) : ACalls Tryz.prog 151 [.s t] st R := by
 refine ⟨Tryz.call151, fun base J w0 μ σ w vs hok hl ha => ?_⟩
 have hv : vs = #[.string t] := by
  apply Array.ext
  ·simpa using hl.symm
  ·intro i q1 q2
   have q2' : i < 1 := by simpa using q2
   match i, q2' with
   | 0, _ =>
    have := (ha 0 _ vs[0] rfl (by simp [q1])).of_lit
    rw [this]; rfl
 subst hv
 have hld := hok.laid
 have tup : ∀ (n : Int) (v : Value) (w' : World), At base J st μ σ w' (.tup [.i n, .lit v]) (.tuple #[.int .i64 n, v]) := fun n v w' => by
  refine .tup _ _ rfl (fun j a u g1 g2 => ?_)
  match j, g1, g2 with
  | 0, g1, g2 => cases g1; simp at g2; subst g2; exact .lit _
  | 1, g1, g2 => cases g1; simp at g2; subst g2; exact .lit _
  | j + 2, g1, g2 => simp at g1
 cases ho : Lib.atoiAll t.data.toList with
 | ok k =>
  refine (Tryz.strconv_Atoi_ok t (by omega) k ho w).mono ?_
  rintro e w' ⟨rfl, hw⟩
  have hb : Below w.heap.size w w' := by
   rcases hw with rfl | ⟨b, rfl⟩
   ·exact .refl _ _
   ·exact ⟨rfl, rfl, rfl, by rw [Lib.bytesWorld_size]; omega, fun j hj => Lib.bytesWorld_at_old _ _ _ j hj⟩
  exact ⟨_, _, st, μ, σ, rfl, h1 k ho, (hok.step hb).1, (hok.step hb).2, tup _ _ _⟩
 | range =>
  obtain ⟨ev, hc, he⟩ := hld.2.2.2
  refine (Tryz.strconv_Atoi_range t (by omega) ho ev w hc he).mono ?_
  rintro e w' ⟨N, rfl, _, _, hb⟩
  exact ⟨_, _, st, μ, σ, rfl, h2 (fun k hk => by rw [ho] at hk; cases hk) _ _ _, (hok.step hb).1, (hok.step hb).2, tup _ _ _⟩
 | _ =>
  obtain ⟨ev, hc, he⟩ := hld.2.2.1
  refine (Any.strconv_Atoi_syntax Tryz.laysC172 t (by omega) ho ev w hc he).mono ?_
  rintro e w' ⟨N, rfl, _, _, hb⟩
  exact ⟨_, _, st, μ, σ, rfl, h2 (fun k hk => by rw [ho] at hk; cases hk) _ _ _, (hok.step hb).1, (hok.step hb).2, tup _ _ _⟩
end
section
theorem numT_neg {n : Int} (h : n < 0) : numT n = ⟨#[45]⟩ ++ digB 10 n.natAbs := by
 apply inL
 rw [numT_l, app_l, digB_dec]
 unfold Lib.itoa
 rw [if_pos h]
 rfl
theorem neg_tdiv (a : Nat) : IntKind.i64.wrap ((-(a : Int)).tdiv 10) = IntKind.i64.wrap (-((a / 10 : Nat) : Int)) := by rw [Int.neg_tdiv]; congr 2
theorem neg_tmod (a : Nat) : (-(a : Int)).tmod 10 = -((a % 10 : Nat) : Int) := by rw [Int.neg_tmod]; congr 1
theorem number_wr (n : Int) (h : inR n) : APure Tryz.prog 62 [.i n] (.s (numT n)) [] := by
 have hmx : maxLen = 9223372036854775807 := rfl
 have hz := numT_size h
 obtain ⟨hlo, hhi⟩ := h
 refine APure.of rfl (ACalls.of_vc T_ok mixed Tryz.func62 rfl Tryz.call62 ?_)
 refine cnd_split (fun hd => ?_) (fun hd => ?_)
 ·have hd := of_decide_eq_true hd
  obtain ⟨m, rfl⟩ := Int.eq_ofNat_of_zero_le (show 0 <= n from hd)
  refine .p rfl (r3Text_p m (by omega)) ?_
  exact rets (numT_pos hd).symm
 ·have hd := of_decide_eq_false hd
  have hn : n < 0 := by omega
  have hD := numT_neg hn
  generalize numT n = Z at *
  subst hD
  generalize hDD : digB 10 n.natAbs = D at *
  refine vc_loop [3, 4] (fun g vals st' => ∃ (d : ByteArray), vals = [.s d, .i (-(g : Int))] /\ g <= n.natAbs /\ ((g ≠ 0 /\ D = digB 10 g ++ d) \/ (g = 0 /\ D = d))) n.natAbs rfl ⟨⟨#[]⟩, by rw [show -((n.natAbs : Nat) : Int) = n by omega]; rfl, Nat.le_refl _, .inl ⟨by omega, by rw [hDD]; exact (ByteArray.append_empty).symm⟩⟩ ?_
  rintro g vals st1 ⟨d, rfl, hg, hr⟩
  refine cnd_split (fun h1 => ?_) (fun h1 => ?_)
  ·have h1 : ¬ (-(g : Int)) = 0 := bne_iff_ne.1 h1
   obtain ⟨g0, hr⟩ : g ≠ 0 /\ D = digB 10 g ++ d := by
    rcases hr with hr | hr
    ·exact hr
    ·omega
   refine ⟨by decide, ?_⟩
   rw [neg_tmod]
   intro c hc
   rw [IntWalk.i64_in _ (by omega)] at hc
   obtain rfl : c = ((g % 10 : Nat) : Int) := by omega
   refine .p rfl (r3Text_p (g % 10) (by omega)) ?_
   have hds : (D).size <= 70 := by rw [ByteArray.size_append] at hz; show _ <= 70; omega
   have hdd : d.size <= 70 := by rw [hr, ByteArray.size_append] at hds; omega
   rw [digB_low (show g % 10 < 10 by omega)]
   refine ⟨by show 1 + d.size <= _; omega, ?_⟩
   refine ⟨by decide, ?_⟩
   intro c hc
   rw [neg_tdiv, IntWalk.i64_in _ (by omega)] at hc
   subst hc
   refine ⟨g / 10, by omega, _, rfl, by omega, ?_⟩
   by_cases hl : g < 10
   ·refine .inr ⟨by omega, ?_⟩
    rw [hr, digB_low hl, Nat.mod_eq_of_lt hl]
   ·refine .inl ⟨by omega, ?_⟩
    rw [hr, digB_high hl (by decide), ByteArray.append_assoc]
  ·have h1 : (-(g : Int)) = 0 := by
    have := bne_eq_false_iff_eq.1 h1
    exact this
   obtain rfl : D = d := by
    rcases hr with hr | hr
    ·omega
    ·exact hr.2
   refine ⟨?_, ?_⟩
   ·rw [ByteArray.size_append] at hz
    show 1 + _ <= _
    have : (⟨#[45]⟩ : ByteArray).size = 1 := rfl
    omega
   ·exact rfl
end
section
theorem hasPrefix_p (s p : ByteArray) : APure Tryz.prog 73 [.s s, .s p] (.b (Lib.hasPrefix s.data.toList p.data.toList)) [] := by
 refine APure.of_lits #[.string s, .string p] (.inl rfl) rfl Tryz.call73 fun w _ => (Tryz.strings_HasPrefix s p w).mono ?_
 rintro e w' ⟨rfl, rfl⟩
 exact ⟨rfl, .refl _ _⟩
theorem trimPrefix_p (s p : ByteArray) : APure Tryz.prog 116 [.s s, .s p] (.s ⟨(Lib.trimPrefix s.data.toList p.data.toList).toArray⟩) [] := by
 refine APure.of_lits #[.string s, .string p] (.inl rfl) rfl Tryz.call116 fun w _ => (Tryz.strings_TrimPrefix s p w).mono ?_
 rintro e w' ⟨rfl, rfl⟩
 exact ⟨rfl, .refl _ _⟩
/-- does a text begin with a word? -/
def begB (s w : ByteArray) : Bool := Lib.hasPrefix s.data.toList w.data.toList
theorem begB_iff {s w : ByteArray} : begB s w = true ↔ ∃ r, s.data.toList = w.data.toList ++ r := by
 unfold begB Lib.hasPrefix
 rw [List.isPrefixOf_iff_prefix]
 constructor
 iterate 2
  ·rintro ⟨r, hr⟩; exact ⟨r, hr.symm⟩
theorem begB_le {s w : ByteArray} (h : begB s w = true) : w.size <= s.size := by
 obtain ⟨r, hr⟩ := begB_iff.1 h
 have := congrArg List.length hr
 rw [blen, List.length_append, blen] at this
 omega
section
variable {st : St} {R : AV -> St -> Prop} {p k n : Nat} {s : ByteArray}
theorem text_m (h : Sc st p s 0) (hn : n <= st.tk.length) (w : ByteArray) (h1 : begB s w = false -> ∀ st', Mv n (· = p) st st' -> Sc st' p s 0 -> R (.b false) st')
  (h2 : begB s w = true -> ∀ st', Mv n (· = p) st st' -> Sc st' p s w.size -> R (.b true) st') : ACalls Tryz.prog 150 [.ptr p 0, .s w] st R := by
 have hm := h.max
 unfold maxLen at hm
 refine ACalls.of_vc T_ok mixed Tryz.func150 rfl Tryz.call150 ?_
 refine .s (rest_a h ?_)
 refine .p rfl (hasPrefix_p _ _) ?_
 have e0 : s.extract 0 s.size = s := ByteArray.extract_zero_size
 rw [e0]
 have hb : Lib.hasPrefix s.data.toList w.data.toList = begB s w := rfl
 rw [hb]
 cases hbb : begB s w with
 | false => exact h1 hbb _ (Mv.refl hn) h
 | true =>
  have hl := begB_le hbb
  refine ⟨_, h.at', ?_⟩
  intro c hc
  rw [IntWalk.i64_in _ (by omega)] at hc
  obtain rfl : c = (w.size : Int) := by omega
  exact ⟨_, h.at', h2 hbb _ ((Mv.refl (C := (· = p)) hn).sc (p := p) (fun _ => rfl) s w.size) (h.sc hl)⟩
end
/-- coded texts, each behind a blank: those that were read, and where the last one ends -/
def wordsG (s : ByteArray) : Nat -> Nat -> List ByteArray × Option Nat
 | 0, k => ([], some k)
 | n + 1, k => if atB s k 32 = true then match codedS s (k + 1) with
  | none => ([⟨#[]⟩], none)
  | some (v, j) => (v :: (wordsG s n j).1, (wordsG s n j).2)
  else ([⟨#[]⟩], none)
def wordsF (s w : ByteArray) (n : Nat) : List ByteArray × Bool := if begB s w = true then ((wordsG s n w.size).1, decide ((wordsG s n w.size).2 = some s.size)) else ([], false)
/-- a word and coded texts, each behind a blank -/
def Wds (s w : ByteArray) (l : List ByteArray) : Prop := s.data.toList = w.data.toList ++ l.flatMap fun x => 32 :: codeL x.data.toList
theorem wordsG_some {s : ByteArray} : ∀ (n k j : Nat), (wordsG s n k).2 = some j -> s.data.toList.drop k = ((wordsG s n k).1.flatMap fun x => 32 :: codeL x.data.toList) ++ s.data.toList.drop j /\ (wordsG s n k).1.length = n := by
 intro n
 induction n with
 | zero => intro k j h; cases h; exact ⟨rfl, rfl⟩
 | succ n ih =>
  intro k j h
  unfold wordsG at h ⊢
  split at h
  ·rename_i h32
   rw [if_pos h32]
   cases hc : codedS s (k + 1) with
   | none => rw [hc] at h; cases h
   | some x =>
    obtain ⟨v, i⟩ := x
    rw [hc] at h
    obtain ⟨r, e1, e2⟩ := codedS_some.1 hc
    obtain ⟨q1, q2⟩ := ih i j h
    obtain ⟨hk, hb⟩ := atB_of h32
    have e3 : s.data.toList.drop k = 32 :: s.data.toList.drop (k + 1) := by
     rw [List.drop_eq_getElem_cons (show k < s.data.toList.length by rw [blen]; exact hk), bget s k hk, show s[k] = 32 from UInt8.toNat_inj.1 (by show s[k].toNat = 32; omega)]
    have e4 : r = s.data.toList.drop i := by
     have := congrArg (List.drop (codeB v).size) e1
     rw [List.drop_drop, <- e2, show (codeB v).size = (codeL v.data.toList).length by rw [<- codeB_l, blen], List.drop_left] at this
     exact this.symm
    refine ⟨?_, by simp only [List.length_cons, q2]⟩
    simp only [List.flatMap_cons]
    rw [e3, e1, e4, q1]
    simp
  ·cases h
theorem wordsG_of {s : ByteArray} : ∀ (l : List ByteArray) (k : Nat) (r : List UInt8), s.data.toList.drop k = (l.flatMap fun x => 32 :: codeL x.data.toList) ++ r -> wordsG s l.length k = (l, some (s.size - r.length)) \/ k > s.size := by
 intro l
 induction l with
 | nil =>
  intro k r h
  by_cases hk : k <= s.size
  ·left
   have hl := congrArg List.length h
   rw [List.length_drop, blen] at hl
   simp at hl
   exact congrArg (fun x => (([] : List ByteArray), some x)) (by omega)
  ·right; omega
 | cons v l ih =>
  intro k r h
  left
  have h2 : s.data.toList.drop k = 32 :: (codeL v.data.toList ++ ((l.flatMap fun x => 32 :: codeL x.data.toList) ++ r)) := by rw [h]; simp
  have hk : k < s.size := by
   have hl := congrArg List.length h2
   rw [List.length_drop, blen, List.length_cons] at hl
   omega
  have e3 := h2
  rw [List.drop_eq_getElem_cons (show k < s.data.toList.length by rw [blen]; exact hk), bget s k hk] at e3
  obtain ⟨e4, e5⟩ := List.cons.inj e3
  have h32 : atB s k 32 = true := by rw [atB_lt hk, e4]; rfl
  have hc : codedS s (k + 1) = some (v, k + 1 + (codeB v).size) := codedS_some.2 ⟨_, e5, rfl⟩
  have e6 : s.data.toList.drop (k + 1 + (codeB v).size) = (l.flatMap fun x => 32 :: codeL x.data.toList) ++ r := by
   rw [<- List.drop_drop, e5, show (codeB v).size = (codeL v.data.toList).length by rw [<- codeB_l, blen], List.drop_left]
  have hle : k + 1 + (codeB v).size <= s.size := by
   have hl := congrArg List.length e5
   rw [List.length_drop, blen, List.length_append, <- codeB_l, blen] at hl
   have := (codeB_size v).2
   omega
  rcases ih _ r e6 with e7 | e7
  ·show wordsG s (l.length + 1) k = _
   unfold wordsG
   rw [if_pos h32, hc]
   show (v :: (wordsG s l.length (k + 1 + (codeB v).size)).1, (wordsG s l.length (k + 1 + (codeB v).size)).2) = _
   rw [e7]
  ·omega
theorem wordsF_true {s w : ByteArray} {n : Nat} (h : (wordsF s w n).2 = true) : Wds s w (wordsF s w n).1 /\ (wordsF s w n).1.length = n := by
 unfold wordsF at h ⊢
 split at h
 ·rename_i hb
  rw [if_pos hb]
  obtain ⟨q1, q2⟩ := wordsG_some n w.size s.size (of_decide_eq_true h)
  refine ⟨?_, q2⟩
  obtain ⟨r, hr⟩ := begB_iff.1 hb
  have e : s.data.toList.drop w.size = r := by rw [hr, <- blen, List.drop_left]
  unfold Wds
  rw [e] at q1
  rw [List.drop_eq_nil_of_le (by rw [blen]; exact Nat.le_refl _), List.append_nil] at q1
  rw [hr, q1]
 ·cases h
theorem wordsF_of {s w : ByteArray} {l : List ByteArray} (h : Wds s w l) : wordsF s w l.length = (l, true) := by
 have hb : begB s w = true := begB_iff.2 ⟨_, h⟩
 have hw := begB_le hb
 have e : s.data.toList.drop w.size = (l.flatMap fun x => 32 :: codeL x.data.toList) ++ [] := by rw [show s.data.toList = _ from h, <- blen, List.drop_left, List.append_nil]
 unfold wordsF
 rw [if_pos hb]
 rcases wordsG_of l w.size [] e with e | e
 ·rw [e]
  exact congrArg (fun x => (l, x)) (by simp)
 ·omega
end
section
attribute [local irreducible] vcApp
set_option maxHeartbeats 1000000 in
theorem words_p (s w : ByteArray) (n : Nat) (hn : n <= 4) (hs : s.size <= 1099511627776) : APure Tryz.prog 112 [.s s, .s w, .i n] (.tup [.sl .no 1 (strL (wordsF s w n).1), .b (wordsF s w n).2]) [] := by
 have hmx : maxLen = 9223372036854775807 := rfl
 have hF : wordsF s w n = if begB s w = true then ((wordsG s n w.size).1, decide ((wordsG s n w.size).2 = some s.size)) else ([], false) := rfl
 generalize wordsF s w n = F at *
 refine APure.ofG rfl ?_
 refine ACalls.of_vc T_ok mixed Tryz.func112 rfl Tryz.call112 ?_
 refine .s (new_a ?_)
 refine ⟨_, last_at _ _, ?_⟩
 refine ⟨_, last_upd _ _ _, ?_⟩
 have h0 : Sc ⟨[[.s s, .i 0], [.ptr 0 0]], []⟩ 0 s 0 := ⟨rfl, Nat.zero_le _, by omega⟩
 refine .s (text_m (n := 0) h0 (Nat.zero_le _) w (fun hb st' m hs1 => ?_) (fun hb st' m hs1 => ?_))
 ·rw [if_neg (by rw [hb]; decide)] at hF
  have hf1 := m.at' (q := 1) (cs := [.ptr 0 0]) rfl (by decide)
  have hst : (false = true /\ F = ((wordsG s (n - 0) 0).1, decide ((wordsG s (n - 0) 0).2 = some s.size))) \/ (false = false /\ F = (([] : List ByteArray), false)) := .inr ⟨rfl, hF⟩
  refine vc_loop [9, 10, 11] (fun g vals st' => ∃ (i : Nat) (acc : List ByteArray) (a : AV) (ok : Bool) (k : Nat), i + g = n /\ vals = [.b ok, a, .i i] /\ acc.length <= i /\ st'.heap[1]? = some [.ptr 0 0] /\ Sc st' 0 s k /\ Acc 0 st'.tk 1 a (strL acc) /\
   ((ok = true /\ F = (acc ++ (wordsG s (n - i) k).1, decide ((wordsG s (n - i) k).2 = some s.size))) \/ (ok = false /\ F = (acc, false)))) n rfl ⟨0, [], .nilS, false, 0, by omega, rfl, Nat.le_refl _, hf1, hs1, .nil, hst⟩ ?_
  rintro g vals st1 ⟨i, acc, a, ok, k, hi, rfl, hal, hf1, hs1, hA, hr⟩
  rcases hA.form with rfl | ⟨t0, e0, rfl⟩
  iterate 2
   ·skip
    rcases hr with ⟨rfl, hr⟩ | ⟨rfl, hr⟩
    ·refine cnd_split (fun hd => ?_) (fun hd => ?_)
     ·have hd := of_decide_eq_true hd
      have hg : n - i = (n - (i + 1)) + 1 := by omega
      rw [hg] at hr
      unfold wordsG at hr
      refine ⟨_, hf1, ?_⟩
      refine .s (byte_m (n := st1.tk.length) hs1 (Nat.le_refl _) 32 (fun h32 st2 m2 hs2 => ?_) (fun h32 hk st2 m2 hs2 => ?_))
      ·have hA2 := hA.mvT m2
       have hf2 := m2.at' hf1 (by decide)
       rw [if_neg (by rw [h32]; decide)] at hr
       refine Acc.app (n := 0) (i := ti9) hA2 (Nat.zero_le _) (List.cons_ne_nil _ _) ?_ ?_ (fun t e tk' q0 q1 q2 q3 => ?_)
       ·show ((strL acc).length + 1) * 16 <= _; rw [strL_len]; omega
       ·show (strL acc).length + 1 <= _; rw [strL_len]; omega
       intro c hc
       rw [IntWalk.i64_in _ (by omega)] at hc
       obtain rfl : c = ((i + 1 : Nat) : Int) := by omega
       refine ⟨g - 1, by omega, i + 1, acc ++ [⟨#[]⟩], _, false, k, by omega, rfl, by rw [List.length_append]; show _ + 1 <= _; omega, hf2, ⟨hs2.at', hs2.le, hs2.max⟩, ?_, .inr ⟨rfl, ?_⟩⟩
       ·rw [strL_appL]
        exact .own _ _ _ q0 q1
       exact hr
      ·have hA2 := hA.mvT m2
       have hf2 := m2.at' hf1 (by decide)
       rw [if_pos h32] at hr
       refine ⟨_, hf2, ?_⟩
       refine .s (coded_m (n := st2.tk.length) hs2 (Nat.le_refl _) hs (fun hc st3 m3 hs3 => ?_) (fun v j hc st3 m3 hs3 => ?_))
       ·rw [hc] at hr
        have hA2 := hA2.mvT m3
        have hf3 := m3.at' hf2 (by decide)
        obtain ⟨j3, _, hs3⟩ := hs3
        refine Acc.app (n := 0) (i := ti9) hA2 (Nat.zero_le _) (List.cons_ne_nil _ _) ?_ ?_ (fun t e tk' q0 q1 q2 q3 => ?_)
        ·show ((strL acc).length + 1) * 16 <= _; rw [strL_len]; omega
        ·show (strL acc).length + 1 <= _; rw [strL_len]; omega
        intro c hc
        rw [IntWalk.i64_in _ (by omega)] at hc
        obtain rfl : c = ((i + 1 : Nat) : Int) := by omega
        refine ⟨g - 1, by omega, i + 1, acc ++ [⟨#[]⟩], _, false, j3, by omega, rfl, by rw [List.length_append]; show _ + 1 <= _; omega, hf3, ⟨hs3.at', hs3.le, hs3.max⟩, ?_, .inr ⟨rfl, ?_⟩⟩
        ·rw [strL_appL]
         exact .own _ _ _ q0 q1
        exact hr
       ·rw [hc] at hr
        have hA2 := hA2.mvT m3
        have hf3 := m3.at' hf2 (by decide)
        refine Acc.app (n := 0) (i := ti9) hA2 (Nat.zero_le _) (List.cons_ne_nil _ _) ?_ ?_ (fun t e tk' q0 q1 q2 q3 => ?_)
        ·show ((strL acc).length + 1) * 16 <= _; rw [strL_len]; omega
        ·show (strL acc).length + 1 <= _; rw [strL_len]; omega
        intro c hc
        rw [IntWalk.i64_in _ (by omega)] at hc
        obtain rfl : c = ((i + 1 : Nat) : Int) := by omega
        refine ⟨g - 1, by omega, i + 1, acc ++ [v], _, true, j, by omega, rfl, by rw [List.length_append]; show _ + 1 <= _; omega, hf3, ⟨hs3.at', hs3.le, hs3.max⟩, ?_, .inl ⟨rfl, ?_⟩⟩
        ·rw [strL_appL]
         exact .own _ _ _ q0 q1
        ·rw [hr, List.append_assoc]
         rfl
     ·have hd := of_decide_eq_false hd
      rw [show n - i = 0 by omega] at hr
      refine ⟨_, hf1, ?_⟩
      refine .s (end_a hs1 ?_)
      have hle := hs1.le
      have he : F = (acc, decide (s.size <= k)) := by
       rw [hr]
       show (acc ++ [], decide (some k = some s.size)) = _
       rw [List.append_nil]
       congr 1
       rw [Bool.eq_iff_iff, decide_eq_true_eq, decide_eq_true_eq, Option.some.injEq]
       omega
      refine retV rfl ?_
      rw [he]
      exact ⟨hA.argW, .inl (.inl ⟨rfl, rfl⟩), trivial⟩
    ·refine cnd_split (fun hd => ?_) (fun hd => ?_)
     iterate 2
      ·skip
       refine retV rfl ?_
       rw [hr]
       exact ⟨hA.argW, .inl (.inl ⟨rfl, rfl⟩), trivial⟩
 ·rw [if_pos hb] at hF
  have hf1 := m.at' (q := 1) (cs := [.ptr 0 0]) rfl (by decide)
  have hst : (true = true /\ F = ((wordsG s (n - 0) w.size).1, decide ((wordsG s (n - 0) w.size).2 = some s.size))) \/ (true = false /\ F = (([] : List ByteArray), false)) := .inl ⟨rfl, hF⟩
  refine vc_loop [9, 10, 11] (fun g vals st' => ∃ (i : Nat) (acc : List ByteArray) (a : AV) (ok : Bool) (k : Nat), i + g = n /\ vals = [.b ok, a, .i i] /\ acc.length <= i /\ st'.heap[1]? = some [.ptr 0 0] /\ Sc st' 0 s k /\ Acc 0 st'.tk 1 a (strL acc) /\
   ((ok = true /\ F = (acc ++ (wordsG s (n - i) k).1, decide ((wordsG s (n - i) k).2 = some s.size))) \/ (ok = false /\ F = (acc, false)))) n rfl ⟨0, [], .nilS, true, w.size, by omega, rfl, Nat.le_refl _, hf1, hs1, .nil, hst⟩ ?_
  rintro g vals st1 ⟨i, acc, a, ok, k, hi, rfl, hal, hf1, hs1, hA, hr⟩
  rcases hA.form with rfl | ⟨t0, e0, rfl⟩
  iterate 2
   ·skip
    rcases hr with ⟨rfl, hr⟩ | ⟨rfl, hr⟩
    ·refine cnd_split (fun hd => ?_) (fun hd => ?_)
     ·have hd := of_decide_eq_true hd
      have hg : n - i = (n - (i + 1)) + 1 := by omega
      rw [hg] at hr
      unfold wordsG at hr
      refine ⟨_, hf1, ?_⟩
      refine .s (byte_m (n := st1.tk.length) hs1 (Nat.le_refl _) 32 (fun h32 st2 m2 hs2 => ?_) (fun h32 hk st2 m2 hs2 => ?_))
      ·have hA2 := hA.mvT m2
       have hf2 := m2.at' hf1 (by decide)
       rw [if_neg (by rw [h32]; decide)] at hr
       refine Acc.app (n := 0) (i := ti9) hA2 (Nat.zero_le _) (List.cons_ne_nil _ _) ?_ ?_ (fun t e tk' q0 q1 q2 q3 => ?_)
       ·show ((strL acc).length + 1) * 16 <= _; rw [strL_len]; omega
       ·show (strL acc).length + 1 <= _; rw [strL_len]; omega
       intro c hc
       rw [IntWalk.i64_in _ (by omega)] at hc
       obtain rfl : c = ((i + 1 : Nat) : Int) := by omega
       refine ⟨g - 1, by omega, i + 1, acc ++ [⟨#[]⟩], _, false, k, by omega, rfl, by rw [List.length_append]; show _ + 1 <= _; omega, hf2, ⟨hs2.at', hs2.le, hs2.max⟩, ?_, .inr ⟨rfl, ?_⟩⟩
       ·rw [strL_appL]
        exact .own _ _ _ q0 q1
       exact hr
      ·have hA2 := hA.mvT m2
       have hf2 := m2.at' hf1 (by decide)
       rw [if_pos h32] at hr
       refine ⟨_, hf2, ?_⟩
       refine .s (coded_m (n := st2.tk.length) hs2 (Nat.le_refl _) hs (fun hc st3 m3 hs3 => ?_) (fun v j hc st3 m3 hs3 => ?_))
       ·rw [hc] at hr
        have hA2 := hA2.mvT m3
        have hf3 := m3.at' hf2 (by decide)
        obtain ⟨j3, _, hs3⟩ := hs3
        refine Acc.app (n := 0) (i := ti9) hA2 (Nat.zero_le _) (List.cons_ne_nil _ _) ?_ ?_ (fun t e tk' q0 q1 q2 q3 => ?_)
        ·show ((strL acc).length + 1) * 16 <= _; rw [strL_len]; omega
        ·show (strL acc).length + 1 <= _; rw [strL_len]; omega
        intro c hc
        rw [IntWalk.i64_in _ (by omega)] at hc
        obtain rfl : c = ((i + 1 : Nat) : Int) := by omega
        refine ⟨g - 1, by omega, i + 1, acc ++ [⟨#[]⟩], _, false, j3, by omega, rfl, by rw [List.length_append]; show _ + 1 <= _; omega, hf3, ⟨hs3.at', hs3.le, hs3.max⟩, ?_, .inr ⟨rfl, ?_⟩⟩
        ·rw [strL_appL]
         exact .own _ _ _ q0 q1
        exact hr
       ·rw [hc] at hr
        have hA2 := hA2.mvT m3
        have hf3 := m3.at' hf2 (by decide)
        refine Acc.app (n := 0) (i := ti9) hA2 (Nat.zero_le _) (List.cons_ne_nil _ _) ?_ ?_ (fun t e tk' q0 q1 q2 q3 => ?_)
        ·show ((strL acc).length + 1) * 16 <= _; rw [strL_len]; omega
        ·show (strL acc).length + 1 <= _; rw [strL_len]; omega
        intro c hc
        rw [IntWalk.i64_in _ (by omega)] at hc
        obtain rfl : c = ((i + 1 : Nat) : Int) := by omega
        refine ⟨g - 1, by omega, i + 1, acc ++ [v], _, true, j, by omega, rfl, by rw [List.length_append]; show _ + 1 <= _; omega, hf3, ⟨hs3.at', hs3.le, hs3.max⟩, ?_, .inl ⟨rfl, ?_⟩⟩
        ·rw [strL_appL]
         exact .own _ _ _ q0 q1
        ·rw [hr, List.append_assoc]
         rfl
     ·have hd := of_decide_eq_false hd
      rw [show n - i = 0 by omega] at hr
      refine ⟨_, hf1, ?_⟩
      refine .s (end_a hs1 ?_)
      have hle := hs1.le
      have he : F = (acc, decide (s.size <= k)) := by
       rw [hr]
       show (acc ++ [], decide (some k = some s.size)) = _
       rw [List.append_nil]
       congr 1
       rw [Bool.eq_iff_iff, decide_eq_true_eq, decide_eq_true_eq, Option.some.injEq]
       omega
      refine retV rfl ?_
      rw [he]
      exact ⟨hA.argW, .inl (.inl ⟨rfl, rfl⟩), trivial⟩
    ·refine cnd_split (fun hd => ?_) (fun hd => ?_)
     iterate 2
      ·skip
       refine retV rfl ?_
       rw [hr]
       exact ⟨hA.argW, .inl (.inl ⟨rfl, rfl⟩), trivial⟩
end
section
def capsB : ByteArray := ⟨#[99, 97, 112, 115]⟩
def capsL : List ByteArray -> Option (Int × Int × Int)
 | [a, b, c, d] => if a = capsB then match numV b, numV c, numV d with
  | some x, some y, some z => some (x, y, z)
  | _, _, _ => none
  else none
 | _ => none
def capsV (s : ByteArray) : Option (Int × Int × Int) := capsL (wordsB s)
def capsA (x : Option (Int × Int × Int)) : List AV := [.i (x.getD (0, 0, 0)).1, .i (x.getD (0, 0, 0)).2.1, .i (x.getD (0, 0, 0)).2.2]
theorem capsL_no {l : List ByteArray} (h : l.length ≠ 4) : capsL l = none := by
 unfold capsL
 split
 ·exact absurd rfl h
 ·rfl
theorem numV_atoi {t : ByteArray} {k : Int} (h : Lib.atoiAll t.data.toList = .ok k) : inR k := Lib.atoiAll_bounds h
theorem caps_p (s : ByteArray) (hs : s.size <= 4000000000) : APure Tryz.prog 114 [.s s] (.tup [.agg (capsA (capsV s)), .b (capsV s).isSome]) [] := by
 have hmx : maxLen = 9223372036854775807 := rfl
 have hC : capsV s = capsL (wordsB s) := rfl
 have hz : ∀ x ∈ wordsB s, x.size <= s.size := fun x hx => wordsB_size hx
 have hp := split32_p s hs
 generalize capsV s = C at *
 generalize wordsB s = l at *
 refine APure.of rfl (ACalls.of_vc T_ok mixed Tryz.func114 rfl Tryz.call114 ?_)
 refine .p rfl hp ?_
 have el := strL_len l
 refine cnd_split (fun h1 => ?_) (fun h1 => ?_)
 ·have h1 : ¬ ((strL l).length : Int) = 4 := bne_iff_ne.1 h1
  rw [capsL_no (by omega)] at hC
  subst hC
  refine ⟨_, rfl, ?_⟩
  refine ⟨_, rfl, ?_⟩
  exact rfl
 ·have h1 : ((strL l).length : Int) = 4 := bne_eq_false_iff_eq.1 h1
  have h4 : l.length = 4 := by omega
  match l, h4 with
  | [a, b, c, d], _ =>
   have zb := hz b (by simp)
   have zc := hz c (by simp)
   have zd := hz d (by simp)
   clear hp hz el h1
   refine ⟨0, _, rfl, rfl, ?_⟩
   intro q hq
   cases hqq : q
   rotate_left
   ·have hC : C = none := by rw [hC]; unfold capsL; exact if_neg (fun e => by have := hq.2 e; rw [hqq] at this; cases this)
    subst hC
    refine ⟨_, rfl, ?_⟩
    refine ⟨_, rfl, ?_⟩
    exact rfl
   have ha : a = capsB := hq.1 hqq
   have hC : C = match numV b, numV c, numV d with
    | some x, some y, some z => some (x, y, z)
    | _, _, _ => none := by rw [hC]; unfold capsL; exact if_pos ha
   refine vc_loop [21] (fun g vals st' => ∃ (i : Nat) (a0 a1 a2 : Int), i + g = 3 /\ vals = [.i i] /\ st' = ⟨[[.i 0, .i 0, .i 0], [.i a0, .i a1, .i a2]], []⟩ /\ (0 < i -> numV b = some a0) /\ (1 < i -> numV c = some a1) /\ (2 < i -> numV d = some a2)) 3 rfl ⟨0, 0, 0, 0, rfl, rfl, rfl, fun h => absurd h (by decide), fun h => absurd h (by decide), fun h => absurd h (by decide)⟩ ?_
   rintro g vals st1 ⟨i, a0, a1, a2, hi, rfl, rfl, n0, n1, n2⟩
   obtain rfl | rfl | rfl | rfl : i = 0 \/ i = 1 \/ i = 2 \/ i = 3 := by omega
   ·skip
    intro c hc
    obtain rfl : c = 0 + 1 := hc.trans (by decide)
    refine ⟨0 + 1, _, rfl, rfl, ?_⟩
    refine .s (atoi_a b (by omega) (fun k hk => ?_) (fun hno n ty v => ?_))
    ·refine .x (by kernel_rfl) ?_
     refine ⟨⟨_, Tryz.underlying144⟩, ?_⟩
     refine .p rfl (itoa_p k (numV_atoi hk)) ?_
     intro c hc
     obtain rfl : c = 0 + 1 := hc.trans (by decide)
     refine ⟨0 + 1, _, rfl, rfl, ?_⟩
     intro q hq
     have hv := numV_ok hk
     cases hqq : q
     ·rw [if_pos (hq.1 hqq)] at hv
      refine ⟨0, rfl, by decide, ?_⟩
      refine ⟨_, rfl, ?_⟩
      intro c hc
      obtain rfl : c = 0 + 1 := hc.trans (by decide)
      refine ⟨g - 1, by omega, 0 + 1, k, a1, a2, by omega, rfl, rfl, fun _ => hv, fun h => absurd h (by decide), fun h => absurd h (by decide)⟩
     ·rw [if_neg (fun e => by have := hq.2 e; rw [hqq] at this; cases this)] at hv
      rw [hv] at hC
      subst hC
      refine ⟨_, rfl, ?_⟩
      refine ⟨_, rfl, ?_⟩
      exact rfl
    ·have hv := numV_no hno
     refine .x (by kernel_rfl) ?_
     refine ⟨⟨_, Tryz.underlying144⟩, ?_⟩
     rw [hv] at hC
     subst hC
     refine ⟨_, rfl, ?_⟩
     refine ⟨_, rfl, ?_⟩
     exact rfl
   ·have n0 := n0 (by decide)
    rw [n0] at hC
    intro c hc
    obtain rfl : c = 1 + 1 := hc.trans (by decide)
    refine ⟨1 + 1, _, rfl, rfl, ?_⟩
    refine .s (atoi_a c (by omega) (fun k hk => ?_) (fun hno n ty v => ?_))
    ·refine .x (by kernel_rfl) ?_
     refine ⟨⟨_, Tryz.underlying144⟩, ?_⟩
     refine .p rfl (itoa_p k (numV_atoi hk)) ?_
     intro c hc
     obtain rfl : c = 1 + 1 := hc.trans (by decide)
     refine ⟨1 + 1, _, rfl, rfl, ?_⟩
     intro q hq
     have hv := numV_ok hk
     cases hqq : q
     ·rw [if_pos (hq.1 hqq)] at hv
      refine ⟨1, rfl, by decide, ?_⟩
      refine ⟨_, rfl, ?_⟩
      intro c hc
      obtain rfl : c = 1 + 1 := hc.trans (by decide)
      refine ⟨g - 1, by omega, 1 + 1, a0, k, a2, by omega, rfl, rfl, fun _ => n0, fun _ => hv, fun h => absurd h (by decide)⟩
     ·rw [if_neg (fun e => by have := hq.2 e; rw [hqq] at this; cases this)] at hv
      rw [hv] at hC
      subst hC
      refine ⟨_, rfl, ?_⟩
      refine ⟨_, rfl, ?_⟩
      exact rfl
    ·have hv := numV_no hno
     refine .x (by kernel_rfl) ?_
     refine ⟨⟨_, Tryz.underlying144⟩, ?_⟩
     rw [hv] at hC
     subst hC
     refine ⟨_, rfl, ?_⟩
     refine ⟨_, rfl, ?_⟩
     exact rfl
   ·have n0 := n0 (by decide)
    have n1 := n1 (by decide)
    rw [n0, n1] at hC
    intro c hc
    obtain rfl : c = 2 + 1 := hc.trans (by decide)
    refine ⟨2 + 1, _, rfl, rfl, ?_⟩
    refine .s (atoi_a d (by omega) (fun k hk => ?_) (fun hno n ty v => ?_))
    ·refine .x (by kernel_rfl) ?_
     refine ⟨⟨_, Tryz.underlying144⟩, ?_⟩
     refine .p rfl (itoa_p k (numV_atoi hk)) ?_
     intro c hc
     obtain rfl : c = 2 + 1 := hc.trans (by decide)
     refine ⟨2 + 1, _, rfl, rfl, ?_⟩
     intro q hq
     have hv := numV_ok hk
     cases hqq : q
     ·rw [if_pos (hq.1 hqq)] at hv
      refine ⟨2, rfl, by decide, ?_⟩
      refine ⟨_, rfl, ?_⟩
      intro c hc
      obtain rfl : c = 2 + 1 := hc.trans (by decide)
      refine ⟨g - 1, by omega, 2 + 1, a0, a1, k, by omega, rfl, rfl, fun _ => n0, fun _ => n1, fun _ => hv⟩
     ·rw [if_neg (fun e => by have := hq.2 e; rw [hqq] at this; cases this)] at hv
      rw [hv] at hC
      subst hC
      refine ⟨_, rfl, ?_⟩
      refine ⟨_, rfl, ?_⟩
      exact rfl
    ·have hv := numV_no hno
     refine .x (by kernel_rfl) ?_
     refine ⟨⟨_, Tryz.underlying144⟩, ?_⟩
     rw [hv] at hC
     subst hC
     refine ⟨_, rfl, ?_⟩
     refine ⟨_, rfl, ?_⟩
     exact rfl
   ·rw [n0 (by decide), n1 (by decide), n2 (by decide)] at hC
    subst hC
    refine ⟨0, rfl, by decide, ?_⟩
    refine ⟨_, rfl, ?_⟩
    refine ⟨1, rfl, by decide, ?_⟩
    refine ⟨_, rfl, ?_⟩
    refine ⟨2, rfl, by decide, ?_⟩
    iterate 3 refine ⟨_, rfl, ?_⟩
    exact rfl
def wordC (s : ByteArray) : ByteArray := ⟨(Lib.cut s.data.toList [32]).1.toArray⟩
def kindF (s : ByteArray) : Int × Bool :=
 if wordC s = ⟨#[101, 110, 118]⟩ then (0, true)
 else if wordC s = ⟨#[100, 111, 109, 97, 105, 110]⟩ then (1, true)
 else if wordC s = ⟨#[112, 108, 97, 99, 101]⟩ then (2, true)
 else if wordC s = ⟨#[99, 97, 112, 115]⟩ then (3, true)
 else if wordC s = ⟨#[114, 117, 108, 101]⟩ then (4, true)
 else if wordC s = ⟨#[99, 108, 105, 101, 110, 116]⟩ then (5, true)
 else if wordC s = ⟨#[117, 112, 115, 116, 114, 101, 97, 109]⟩ then (6, true)
 else if wordC s = ⟨#[101, 110, 100, 115]⟩ then if s = ⟨#[101, 110, 100, 115, 32, 99, 108, 105, 101, 110, 116]⟩ then (7, true) else (8, decide (s = ⟨#[101, 110, 100, 115, 32, 117, 112, 115, 116, 114, 101, 97, 109]⟩))
 else (9, decide (wordC s = ⟨#[101, 118, 101, 110, 116]⟩))
theorem cut_p (s : ByteArray) (hs : s.size <= 4000000000) : APure Tryz.prog 111 [.s s, .s ⟨#[32]⟩] (.tup [.s (wordC s), .s ⟨(Lib.cut s.data.toList [32]).2.1.toArray⟩, .b (Lib.cut s.data.toList [32]).2.2]) [] := by
 refine APure.of_lits #[.string s, .string ⟨#[32]⟩] (.inr ⟨[_, _, _], rfl, rfl⟩) rfl Tryz.call111 fun w hw => ?_
 obtain ⟨m, hm⟩ := hw.max
 refine (Tryz.strings_Cut s ⟨#[32]⟩ m w (by omega) hm).mono ?_
 rintro e w' ⟨rfl, n, rfl⟩
 exact ⟨rfl, rfl, rfl, rfl, Nat.le_refl _, fun _ _ => rfl⟩
theorem kinds_p (s : ByteArray) (hs : s.size <= 4000000000) : APure Tryz.prog 69 [.s s] (.tup [.i (kindF s).1, .b (kindF s).2]) [] := by
 have hp := cut_p s hs
 unfold kindF
 generalize wordC s = W at *
 refine APure.of rfl (ACalls.of_vc T_ok mixed Tryz.func69 rfl Tryz.call69 ?_)
 refine .p rfl hp ?_
 intro q hq
 cases hqq : q
 rotate_left
 ·rw [if_pos (hq.1 hqq)]
  exact rfl
 rw [if_neg (fun e => by have := hq.2 e; rw [hqq] at this; cases this)]
 intro q hq
 cases hqq : q
 rotate_left
 ·rw [if_pos (hq.1 hqq)]
  exact rfl
 rw [if_neg (fun e => by have := hq.2 e; rw [hqq] at this; cases this)]
 intro q hq
 cases hqq : q
 rotate_left
 ·rw [if_pos (hq.1 hqq)]
  exact rfl
 rw [if_neg (fun e => by have := hq.2 e; rw [hqq] at this; cases this)]
 intro q hq
 cases hqq : q
 rotate_left
 ·rw [if_pos (hq.1 hqq)]
  exact rfl
 rw [if_neg (fun e => by have := hq.2 e; rw [hqq] at this; cases this)]
 intro q hq
 cases hqq : q
 rotate_left
 ·rw [if_pos (hq.1 hqq)]
  exact rfl
 rw [if_neg (fun e => by have := hq.2 e; rw [hqq] at this; cases this)]
 intro q hq
 cases hqq : q
 rotate_left
 ·rw [if_pos (hq.1 hqq)]
  exact rfl
 rw [if_neg (fun e => by have := hq.2 e; rw [hqq] at this; cases this)]
 intro q hq
 cases hqq : q
 rotate_left
 ·rw [if_pos (hq.1 hqq)]
  exact rfl
 rw [if_neg (fun e => by have := hq.2 e; rw [hqq] at this; cases this)]
 intro q hq
 cases hqq : q
 rotate_left
 ·rw [if_pos (hq.1 hqq)]
  intro q hq
  cases hqq : q
  rotate_left
  ·rw [if_pos (hq.1 hqq)]
   exact rfl
  rw [if_neg (fun e => by have := hq.2 e; rw [hqq] at this; cases this)]
  intro q hq
  have e : q = decide (s = ⟨#[101, 110, 100, 115, 32, 117, 112, 115, 116, 114, 101, 97, 109]⟩) := by rw [Bool.eq_iff_iff, hq, decide_eq_true_eq]
  subst e
  exact rfl
 rw [if_neg (fun e => by have := hq.2 e; rw [hqq] at this; cases this)]
 intro q hq
 have e : q = decide (W = ⟨#[101, 118, 101, 110, 116]⟩) := by rw [Bool.eq_iff_iff, hq, decide_eq_true_eq]
 subst e
 exact rfl
end
end Go.Proofs.YticbonkojpabnaaGreatDoor
