/- HopClean: the law. No statement of its own. -/
import Derived.Test.YtopmflkeohicjaaDoorHpB
set_option maxRecDepth 100000
namespace Go.Proofs.YtopmflkeohicjaaDoor
open Go.RowKit
theorem tok_byte : ∀ m : Nat, m < 256 → tokI (m : Int) = true → blkI (m : Int) = false ∧ ((m : Int) == 44) = false ∧ ((m : Int) == 40) = false ∧ ((m : Int) == 34) = false ∧ tokI (((lowU (UInt8.ofNat m)).toNat : Nat) : Int) = true := by decide +kernel
theorem tok_piece {x : ByteArray} (h : tokB x = true) : Piece x := by
  unfold tokB at h
  rw [Bool.and_eq_true, decide_eq_true_eq] at h
  obtain ⟨h0, ha⟩ := h
  have hb : ∀ k (hk : k < x.size), blkI (x[k].toNat : Int) = false ∧ ((x[k].toNat : Int) == 44) = false ∧ ((x[k].toNat : Int) == 40) = false ∧ ((x[k].toNat : Int) == 34) = false := fun k hk => by
    obtain ⟨a, b, c, d, _⟩ := tok_byte x[k].toNat x[k].toNat_lt (allI_at ha k hk)
    exact ⟨a, b, c, d⟩
  refine ⟨h0, by rw [bkAt_lt h0]; exact (hb 0 h0).1, by rw [bkAt_lt (by omega)]; exact (hb _ (by omega)).1, ?_⟩
  have run : ∀ (m k : Nat), k + m = x.size → Run x k x.size := by
    intro m
    induction m with
    | zero => intro k hk; rw [show k = x.size by omega]; exact .nil _
    | succ m ih =>
      intro k hk
      obtain ⟨_, b, c, d⟩ := hb k (by omega)
      refine .step (i := k + 1) (by omega) (by rw [atB_lt (by omega)]; exact b) ?_ (ih (k + 1) (by omega))
      unfold stepW
      rw [atB_lt (by omega), atB_lt (by omega), atB_lt (by omega), b, c, d]
      rfl
  exact run x.size 0 (by omega)
theorem tok_fold {x : ByteArray} (h : tokB x = true) : tokB (foldB x) = true := by
  unfold tokB at h ⊢
  rw [Bool.and_eq_true, decide_eq_true_eq] at h ⊢
  refine ⟨by rw [foldB_size]; exact h.1, ?_⟩
  unfold allI
  rw [foldB_l]
  unfold foldL
  rw [List.all_map]
  refine List.all_eq_true.2 fun b hb => ?_
  have h1 := List.all_eq_true.1 h.2 b hb
  have := (tok_byte b.toNat b.toNat_lt h1).2.2.2.2
  rw [UInt8.ofNat_toNat] at this
  exact this
theorem tokW_self {x : ByteArray} (h : tokB x = true) : tokW [x] = some [x] := by
  have hs : splitW x = some [x] := by
    have := join_back [x] (fun y hy => by rw [List.mem_singleton.1 hy]; exact tok_piece h)
    rwa [joinC_one] at this
  unfold tokW
  rw [hs]
  simp [h, tokW]
theorem tokW_tok {x : ByteArray} {p : List ByteArray} (h : tokW [x] = some p) : ∀ t ∈ p, tokB t = true := by
  have hs := tokW_one h
  unfold tokW at h
  rw [hs] at h
  simp only at h
  split at h
  · rename_i ha
    exact List.all_eq_true.1 ha
  · cases h
theorem nomW_all {Q : ByteArray → Prop} (l : List Fld) (h : ∀ v ∈ valsW coS l, ∀ p, tokW [v] = some p → ∀ t ∈ p, Q (foldB t)) : ∀ x ∈ nomW l, Q x := by
  have add : ∀ (p out : List ByteArray), (∀ t ∈ p, Q (foldB t)) → (∀ x ∈ out, Q x) → ∀ x ∈ p.foldl addN out, Q x := by
    intro p
    induction p with
    | nil => intro out _ h; exact h
    | cons t r ih =>
      intro out hp ho
      rw [List.foldl_cons]
      refine ih _ (fun y hy => hp y (.tail _ hy)) fun x hx => ?_
      unfold addN at hx
      split at hx
      · exact ho x hx
      · rcases List.mem_append.1 hx with hx | hx
        · exact ho x hx
        · rw [List.mem_singleton.1 hx]; exact hp t (.head _)
  have all : ∀ (v out : List ByteArray), (∀ x ∈ v, ∀ p, tokW [x] = some p → ∀ t ∈ p, Q (foldB t)) → (∀ x ∈ out, Q x) → ∀ x ∈ v.foldl nomV out, Q x := by
    intro v
    induction v with
    | nil => intro out _ h; exact h
    | cons x r ih =>
      intro out hv ho
      rw [List.foldl_cons]
      refine ih _ (fun y hy => hv y (.tail _ hy)) ?_
      unfold nomV
      cases htw : tokW [x] with
      | none => exact ho
      | some p => exact add p out (hv x (.head _) p htw) ho
  exact all _ _ h (by simp)
theorem nomW_tok (l : List Fld) : ∀ x ∈ nomW l, tokB x = true := nomW_all l fun v _ p hp t ht => tok_fold (tokW_tok hp t ht)
theorem hasW_mem {n : List ByteArray} (t : ByteArray) (h1 : ∀ x ∈ n, tokB x = true) (h2 : ∀ x ∈ n, foldB x = x) : hasW t n = memB n (foldB t) := by
  unfold hasW memB
  induction n with
  | nil => rfl
  | cons x r ih =>
    rw [List.any_cons, List.any_cons, ih (fun y hy => h1 y (.tail _ hy)) (fun y hy => h2 y (.tail _ hy))]
    congr 1
    unfold hasX
    rw [tokW_self (h1 x (.head _))]
    simp [h2 x (.head _)]
theorem keptS_app (n : List ByteArray) (l m : List Fld) : keptS n (l ++ m) = keptS n l ++ keptS n m := by unfold keptS; rw [List.filter_append]
theorem keptS_at {n : List ByteArray} {l : List Fld} {i : Nat} (hi : i < l.length) (h : (!memB namesL (foldB l[i].1) && !memB n (foldB l[i].1)) = true) :
    ∃ hk : (keptS n (l.take i)).length < (keptS n l).length, (keptS n l)[(keptS n (l.take i)).length] = l[i] := by
  have e : keptS n l = keptS n (l.take i) ++ (l[i] :: keptS n (l.drop (i + 1))) := by
    conv => lhs; rw [← List.take_append_drop i l, keptS_app]
    congr 1
    rw [List.drop_eq_getElem_cons hi]
    unfold keptS
    rw [List.filter_cons, if_pos h]
  have hl := congrArg List.length e
  rw [List.length_append, List.length_cons] at hl
  refine ⟨by omega, ?_⟩
  have := congrArg (fun z => z[(keptS n (l.take i)).length]?) e
  simp only [List.getElem?_append_right (Nat.le_refl _), Nat.sub_self, List.getElem?_cons_zero] at this
  rw [List.getElem?_eq_getElem (by omega)] at this
  exact Option.some.inj this
theorem stripW_stripW (l : List Fld) (hl : FldOk l) : FldOk (stripW l) ∧ stripW (stripW l) = stripW l := by
  have hs := stripW_S l hl
  have hmem : ∀ f ∈ stripW l, f ∈ l ∧ memB namesL (foldB f.1) = false := fun f hf => by
    rw [hs] at hf
    unfold keptS at hf
    obtain ⟨h1, h2⟩ := List.mem_filter.1 hf
    rw [Bool.and_eq_true, Bool.not_eq_true'] at h2
    exact ⟨h1, h2.1⟩
  have hok : FldOk (stripW l) := ⟨Nat.le_trans (List.length_filter_le _ _) hl.len, fun f hf => hl.size f (hmem f hf).1⟩
  refine ⟨hok, ?_⟩
  have hv : valsW coS (stripW l) = [] := by
    unfold valsW
    rw [List.map_eq_nil_iff, List.filter_eq_nil_iff]
    intro f hf h
    have h1 := (hmem f hf).2
    rw [of_decide_eq_true h] at h1
    have : memB namesL (foldB coS) = true := by decide +kernel
    rw [this] at h1
    cases h1
  have hn : nomW (stripW l) = [] := by unfold nomW; rw [hv]; rfl
  rw [stripW_S _ hok, hn]
  unfold keptS
  refine List.filter_eq_self.2 fun f hf => ?_
  rw [(hmem f hf).2]
  rfl
set_option maxHeartbeats 1000000 in
theorem hopClean_p (l : List Fld) : APure Tryd.prog 11 [.sl .no 2 (fldL l)] (.b true) [] := by
  have hok := FldOk.few l
  have hlen := fewF_len l
  have hsz := fewF_size l
  have fw := few_h 0 0 0 .empty .empty .empty l
  have n1 := nom_p (fewF l) hok
  have s1 := strip_w (fewF l) hok
  obtain ⟨nb, ns⟩ := nomW_bound (fewF l) hok
  obtain ⟨ok2, ss⟩ := stripW_stripW (fewF l) hok
  have s2 := strip_w (stripW (fewF l)) ok2
  rw [ss] at s2
  have sb := ok2.len
  have m2 := same12_p (stripW (fewF l)) (stripW (fewF l)) (by omega) (by omega)
  rw [decide_eq_true rfl] at m2
  have hS := stripW_S (fewF l) hok
  have hhas : ∀ t : ByteArray, t.size ≤ 4000 → APure Tryd.prog 51 [.s t, .sl .no 1 (strL (nomW (fewF l)))] (.b (memB (nomW (fewF l)) (foldB t))) [] := fun t ht => by
    rw [← hasW_mem t (nomW_tok _) (fun x hx => (ns x hx).2)]
    exact hasR_p t _ ht (by omega) (fun x hx => (ns x hx).1)
  generalize nomW (fewF l) = n at *
  generalize hs0 : stripW (fewF l) = s at *
  clear hs0
  generalize fewF l = fl at *
  have ell := fldL_len fl
  have els := fldL_len s
  refine APure.of rfl (ACalls.of_vc T_ok mixed Tryd.func11 rfl Tryd.call11 ?_)
  refine .p rfl awake24_p ?_
  refine .p rfl fw ?_
  refine .p rfl n1 ?_
  refine .p rfl s1 ?_
  refine vc_loop [5, 6] (fun g vals st' => ∃ i : Nat, i + g = fl.length ∧ vals = [.i (keptS n (fl.take i)).length, .i i]) fl.length rfl ⟨0, by omega, rfl⟩ ?_
  rintro g vals st' ⟨i, hi, rfl⟩
  have kb : (keptS n (fl.take i)).length ≤ 1000 := Nat.le_trans (List.length_filter_le _ _) (by rw [List.length_take]; omega)
  refine cnd_split (fun hd => ?_) (fun hd => ?_)
  · have hd := of_decide_eq_true hd
    have i1 : i < fl.length := by omega
    have sz := hsz fl[i] (List.getElem_mem i1)
    have hsn := keptS_snoc n fl i i1
    have hat := fun h => keptS_at (n := n) i1 h
    have pf := fixed_p fl[i].1 (Nat.le_trans sz.1 (by decide))
    have ph := hhas fl[i].1 (by omega)
    generalize memB namesL (foldB fl[i].1) = F at *
    generalize memB n (foldB fl[i].1) = G at *
    refine ⟨i, _, rfl, fldL_at i1, ?_⟩
    refine .p rfl pf ?_
    cases F with
    | true =>
      rw [if_neg (by simp), List.append_nil] at hsn
      intro c hc
      rw [IntWalk.i64_in _ (by omega)] at hc
      obtain rfl : c = ((i + 1 : Nat) : Int) := by omega
      exact ⟨g - 1, by omega, i + 1, by omega, by rw [hsn]; rfl⟩
    | false =>
      refine ⟨i, _, rfl, fldL_at i1, ?_⟩
      refine .p rfl ph ?_
      cases G with
      | true =>
        rw [if_neg (by decide), List.append_nil] at hsn
        intro c hc
        rw [IntWalk.i64_in _ (by omega)] at hc
        obtain rfl : c = ((i + 1 : Nat) : Int) := by omega
        exact ⟨g - 1, by omega, i + 1, by omega, by rw [hsn]; rfl⟩
      | false =>
        rw [if_pos (by decide)] at hsn
        obtain ⟨hk, he⟩ := hat rfl
        have hk2 : (keptS n (fl.take i)).length < s.length := by rw [hS]; exact hk
        have he2 : s[(keptS n (fl.take i)).length] = fl[i] := by
          rw [← he]
          congr 1
        refine .e (by kernel_rfl) ?_
        refine cnd_split (fun h3 => ?_) (fun h3 => ?_)
        · exact absurd (of_decide_eq_true h3) (by omega)
        refine ⟨_, _, rfl, fldL_at hk2, ?_⟩
        refine ⟨i, _, rfl, fldL_at i1, ?_⟩
        refine ⟨by kernel_rfl, fun q hq => ?_⟩
        have hq : q = true := hq.2 ⟨by rw [he2], by rw [he2], trivial⟩
        subst hq
        intro c hc
        rw [IntWalk.i64_in _ (by omega)] at hc
        subst hc
        intro c hc
        rw [IntWalk.i64_in _ (by omega)] at hc
        obtain rfl : c = ((i + 1 : Nat) : Int) := by omega
        exact ⟨g - 1, by omega, i + 1, by omega, by rw [hsn, List.length_append]; rfl⟩
  · have hd := of_decide_eq_false hd
    have e : keptS n (fl.take i) = s := by rw [hS, List.take_of_length_le (by omega)]
    refine cnd_split (fun h3 => ?_) (fun h3 => ?_)
    case refine_2 => exact absurd (beq_eq_false_iff_ne.1 h3) (fun h => h (by rw [e]; omega))
    refine .p rfl s2 ?_
    refine .p rfl m2 ?_
    rfl
end Go.Proofs.YtopmflkeohicjaaDoor
