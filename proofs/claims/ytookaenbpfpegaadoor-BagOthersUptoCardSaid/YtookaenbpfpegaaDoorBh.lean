/- Bags whose row is one's own: fields gone, called otherwise, put behind; the place of one. No statement of its own. -/
import Derived.Test.YtookaenbpfpegaaDoorBg
set_option linter.unusedSimpArgs false
set_option linter.unusedVariables false
set_option maxRecDepth 100000
namespace Go.Proofs.YtookaenbpfpegaaDoor
open Go.RowKit
section
variable {st : St} {R : AV → St → Prop} {b p cap : Nat} {r : Option Nat}
theorem removeH_a {tg : Tk} (names : List ByteArray) (hn : NmOk names) (l : List Fld) (zs : List AV) (hl : l.length ≤ 1099511627776) (hz : ∀ f ∈ l, f.1.size ≤ 1099511627776) (hba : st.heap[b]? = some [.hs p 0 l.length cap 2]) (hp : st.heap[p]? = some (fl l ++ zs)) (hc : l.length ≤ cap) (hpb : p ≠ b)
    (h : ∀ st' zs', Mv 0 (fun q => q = b ∨ q = p) st st' → st'.heap[b]? = some [.hs p 0 (keptW names l).length cap 2] → st'.heap[p]? = some (fl (keptW names l) ++ zs') → (fl (keptW names l) ++ zs').length = (fl l ++ zs).length → R (.i ((l.length : Int) - (keptW names l).length)) st') :
    ACalls Tryd.prog 32 [.ptr b 0, .sl tg 1 (strL names)] st R := by
  have hmx : maxLen = 9223372036854775807 := rfl
  have hblt := lt_of hba
  have hplt := lt_of hp
  have hba1 : ∀ x, (st.heap ++ [x])[b]? = some [.hs p 0 l.length cap 2] := fun x => ap hba
  have kl : (keptW names l).length ≤ l.length := List.length_filter_le _ _
  refine ACalls.of_vc T_ok mixed Tryd.func32 rfl Tryd.call32 ?_
  refine ⟨_, hba1 _, ?_⟩
  refine ⟨_, hba1 _, ?_⟩
  refine .s (delete_a (st := ⟨st.heap ++ _, st.tk⟩) (q := st.heap.length) names hn l zs hl hz hc (ap hp) (last_at _ _) (by omega) fun st' zs' hlen hkeep hp' hle => ?_)
  have hlen : st.heap.length + 1 ≤ st'.heap.length := by simpa using hlen
  have hb' : st'.heap[b]? = some [.hs p 0 l.length cap 2] := (hkeep b (by simp; omega) (fun e => hpb e.symm)).trans (hba1 _)
  refine ⟨_, hb', ?_⟩
  refine ⟨_, st_eq hb', ?_⟩
  intro c hc1
  rw [IntWalk.i64_in _ (by omega)] at hc1
  subst hc1
  refine h _ zs' ⟨by simp; omega, fun q hq hC => ?_, Nat.zero_le _, fun t ht => by omega⟩ (st_eq hb') (st_ne (fun e => hpb e.symm) hp') hle
  have hC : ¬ q = b ∧ ¬ q = p := ⟨fun e => hC (.inl e), fun e => hC (.inr e)⟩
  exact (List.getElem?_set_ne (fun e => hC.1 e.symm)).trans ((hkeep q (by simp; omega) hC.2).trans (List.getElem?_append_left hq))
theorem removeE_a {tg : Tk} (names : List ByteArray) (a : AV) (ha : a = .nilS ∨ a = .sl .tight 2 []) (hba : st.heap[b]? = some [a]) (h : ∀ st', Mv 0 (fun q => q = b) st st' → st'.heap[b]? = some [a] → R (.i 0) st') :
    ACalls Tryd.prog 32 [.ptr b 0, .sl tg 1 (strL names)] st R := by
  have hba1 : ∀ x, (st.heap ++ [x])[b]? = some [a] := fun x => ap hba
  have m : ∀ x y, Mv 0 (fun q => q = b) st ⟨(st.heap ++ [x]).set b y, st.tk⟩ := fun x y => ((Mv.refl (C := fun q => q = b) (Nat.zero_le _)).alloc x).set (fun _ => rfl) y
  rcases ha with rfl | rfl
  · refine ACalls.of_vc T_ok mixed Tryd.func32 rfl Tryd.call32 ?_
    refine ⟨_, hba1 _, ?_⟩
    refine ⟨_, hba1 _, ?_⟩
    refine .s (deleteE_a _ (.inl rfl) _ ⟨_, _, _, rfl⟩ ?_)
    refine ⟨_, hba1 _, ?_⟩
    refine ⟨_, st_eq (hba1 _), ?_⟩
    intro c hc1
    rw [IntWalk.i64_in _ (by simp)] at hc1
    obtain rfl : c = 0 := by simpa using hc1
    exact h _ (m _ _) (st_eq (hba1 _))
  · refine ACalls.of_vc T_ok mixed Tryd.func32 rfl Tryd.call32 ?_
    refine ⟨_, hba1 _, ?_⟩
    refine ⟨_, hba1 _, ?_⟩
    refine .s (deleteE_a _ (.inr rfl) _ ⟨_, _, _, rfl⟩ ?_)
    refine ⟨_, hba1 _, ?_⟩
    refine ⟨_, st_eq (hba1 _), ?_⟩
    intro c hc1
    rw [IntWalk.i64_in _ (by simp)] at hc1
    obtain rfl : c = 0 := by simpa using hc1
    exact h _ (m _ _) (st_eq (hba1 _))
theorem fldL_nil {l : List Fld} (h : fldL l = []) : l = [] := by unfold fldL at h; exact List.map_eq_nil_iff.1 h
theorem removeX_a {tg : Tk} (names : List ByteArray) (hn : NmOk names) (l : List Fld) (hl : l.length ≤ 1099511627776) (hz : ∀ f ∈ l, f.1.size ≤ 1099511627776) (hb : HB st b r l)
    (h : ∀ st', HB st' b r (keptW names l) → BgS st b r st' r → R (.i ((l.length : Int) - (keptW names l).length)) st') :
    ACalls Tryd.prog 32 [.ptr b 0, .sl tg 1 (strL names)] st R := by
  obtain ⟨a, hba, hR, hrb⟩ := hb
  have el := fldL_len l
  obtain ⟨es, hes⟩ : ∃ es, fldL l = es := ⟨_, rfl⟩
  rw [hes] at hR
  cases hR with
  | nil =>
    obtain rfl := fldL_nil hes
    exact removeE_a names _ (.inl rfl) hba fun st' m hb' => h st' ⟨_, hb', .nil, hrb⟩ ⟨m.wide fun q _ e => .inl e, .inl rfl⟩
  | tight =>
    obtain rfl := fldL_nil hes
    exact removeE_a names _ (.inr rfl) hba fun st' m hb' => h st' ⟨_, hb', .tight, hrb⟩ ⟨m.wide fun q _ e => .inl e, .inl rfl⟩
  | hs p cap _ hw =>
    obtain ⟨⟨zs, hp, hzl⟩, he, hc⟩ := hw
    subst hes
    rw [el] at hba hc hzl
    have hpb : p ≠ b := fun e => hrb (by rw [e])
    have kl : (keptW names l).length ≤ l.length := List.length_filter_le _ _
    refine removeH_a names hn l zs hl hz hba hp hc hpb fun st' zs' m hb' hp' hle => ?_
    refine h st' ⟨_, hb', ?_, hrb⟩ ⟨m.wide fun q _ e => e.imp id (fun e => by rw [e]), .inl rfl⟩
    have ek := fldL_len (keptW names l)
    have := HR.hs (st := st') p cap (fldL (keptW names l)) ⟨⟨zs', hp', ?_⟩, fldL_el _, by omega⟩
    · rw [ek] at this
      exact this
    · rw [List.length_append, List.length_append, fl_len, fl_len, hzl] at hle
      rw [ek]; exact hle
theorem fl_set1 {l : List Fld} {zs : List AV} {k : Nat} (hk : k < l.length) (x : ByteArray) : (fl l ++ zs).set (0 + k * 2 + 0) (.s x) = fl (l.set k (x, l[k].2)) ++ zs := by
  have := rows_set1 (zs := zs) (fun e he => (fldL_el l e he).1) (k := k) (j := 0) (by rw [fldL_len]; exact hk) (by omega) (.s x)
  rw [this]
  congr 2
  unfold fldL
  rw [List.map_set]
  simp
theorem fl_set2 {l : List Fld} {zs : List AV} {k : Nat} (hk : k < l.length) (x : ByteArray) : (fl l ++ zs).set (0 + k * 2 + 1) (.s x) = fl (l.set k (l[k].1, x)) ++ zs := by
  have := rows_set1 (zs := zs) (fun e he => (fldL_el l e he).1) (k := k) (j := 1) (by rw [fldL_len]; exact hk) (by omega) (.s x)
  rw [this]
  congr 2
  unfold fldL
  rw [List.map_set]
  simp
theorem fl_get {l : List Fld} {zs : List AV} {k j : Nat} (hk : k < l.length) (hj : j < 2) : (fl l ++ zs)[0 + k * 2 + j]? = [AV.s l[k].1, AV.s l[k].2][j]? := by
  rw [Nat.zero_add, List.getElem?_append_left (by rw [fl_len]; omega), fl_at hk hj]
theorem renW_step {a c : ByteArray} {l : List Fld} {k : Nat} (hk : k < l.length) : ((l.take k).map (renF a c) ++ l.drop k).set k (renF a c l[k]) = (l.take (k + 1)).map (renF a c) ++ l.drop (k + 1) := by
  have e1 : ((l.take k).map (renF a c)).length = k := by rw [List.length_map, List.length_take]; omega
  rw [List.set_append_right _ _ (by omega), e1, Nat.sub_self, List.drop_eq_getElem_cons hk, List.set_cons_zero, List.take_succ_eq_append_getElem hk, List.map_append, List.append_assoc]
  rfl
set_option maxHeartbeats 1000000 in
theorem renameX_a (x y : ByteArray) (hx : x.size ≤ 1099511627776) (l : List Fld) (hl : l.length ≤ 1099511627776) (hz : ∀ f ∈ l, f.1.size ≤ 1099511627776) (hb : HB st b r l)
    (h : ∀ st', HB st' b r (renW x y l) → BgS st b r st' r → R (.i (cntW x l)) st') :
    ACalls Tryd.prog 33 [.ptr b 0, .s x, .s y] st R := by
  have hmx : maxLen = 9223372036854775807 := rfl
  have hb0 := hb
  obtain ⟨a, hba, hR, hrb⟩ := hb
  have el := fldL_len l
  obtain ⟨es, hes⟩ : ∃ es, fldL l = es := ⟨_, rfl⟩
  rw [hes] at hR
  cases hR with
  | nil =>
    obtain rfl := fldL_nil hes
    refine ACalls.of_vc T_ok mixed Tryd.func33 rfl Tryd.call33 ?_
    refine ⟨_, hba, ?_⟩
    refine vc_loop [16, 7] (fun g vals st' => vals = [.i 0, .i 0] ∧ st' = st) 0 rfl ⟨rfl, rfl⟩ ?_
    rintro g vals st' ⟨rfl, rfl⟩
    exact h _ hb0 (.refl _ _ _)
  | tight =>
    obtain rfl := fldL_nil hes
    refine ACalls.of_vc T_ok mixed Tryd.func33 rfl Tryd.call33 ?_
    refine ⟨_, hba, ?_⟩
    refine vc_loop [16, 7] (fun g vals st' => vals = [.i 0, .i 0] ∧ st' = st) 0 rfl ⟨rfl, rfl⟩ ?_
    rintro g vals st' ⟨rfl, rfl⟩
    exact h _ hb0 (.refl _ _ _)
  | hs p cap _ hw =>
    obtain ⟨⟨zs, hp, hzl⟩, he, hc⟩ := hw
    subst hes
    rw [el] at hba hc hzl
    have hpb : p ≠ b := fun e => hrb (by rw [e])
    refine ACalls.of_vc T_ok mixed Tryd.func33 rfl Tryd.call33 ?_
    refine ⟨_, hba, ?_⟩
    refine vc_loop [16, 7] (fun g vals st' => ∃ k : Nat, k + g = l.length ∧ vals = [.i k, .i (cntW x (l.take k))] ∧ Mv 0 (fun q => q = p) st st' ∧ st'.heap[p]? = some (fl ((l.take k).map (renF x y) ++ l.drop k) ++ zs)) l.length rfl ⟨0, by omega, rfl, .refl (Nat.zero_le _), hp⟩ ?_
    rintro g vals st' ⟨k, hk, rfl, m, hp'⟩
    have hb' := m.at' hba (fun e => hpb e.symm)
    have hcn := cntW_le x (l.take k)
    rw [List.length_take] at hcn
    refine cnd_split (fun hd => ?_) (fun hd => ?_)
    · have hd := of_decide_eq_true hd
      have k1 : k < l.length := by omega
      have hstep := renW_step (a := x) (c := y) k1
      have hct := cntW_take (a := x) k1
      have hrl : ((l.take k).map (renF x y) ++ l.drop k).length = l.length := by simp; omega
      have hrk : ∀ hh : k < ((l.take k).map (renF x y) ++ l.drop k).length, ((l.take k).map (renF x y) ++ l.drop k)[k] = l[k] := fun hh => by
        rw [List.getElem_append_right (by simp; omega)]
        simp [show min k l.length = k by omega]
      generalize (l.take k).map (renF x y) ++ l.drop k = rr at *
      have k2 : k < rr.length := by omega
      have hrk := hrk k2
      have sz := hz l[k] (List.getElem_mem k1)
      have q1 := sameO_p l[k].1 x (by omega) (by omega)
      have hof : decide (foldB l[k].1 = foldB x) = ofB x l[k] := rfl
      rw [hof] at q1
      refine ⟨_, hb', ?_⟩
      refine ⟨k, rfl, k1, ?_⟩
      refine ⟨_, hp', ld1 (c := .s l[k].1) rfl ((fl_get (j := 0) k2 (by omega)).trans (by rw [hrk]; rfl)) ?_⟩
      refine .p rfl q1 ?_
      refine cnd_split (fun ho => ?_) (fun ho => ?_)
      · rw [if_pos ho] at hct
        refine ⟨_, hb', ?_⟩
        refine ⟨k, rfl, k1, ?_⟩
        refine ⟨_, hp', st1' (o := 0 + k * 2 + 0) rfl (by rw [List.length_append, fl_len]; omega) (fl_set1 k2 y) ?_⟩
        intro c hc
        rw [IntWalk.i64_in _ (by omega)] at hc
        obtain rfl : c = ((cntW x (l.take k) + 1 : Nat) : Int) := by omega
        intro c hc
        rw [IntWalk.i64_in _ (by omega)] at hc
        obtain rfl : c = ((k + 1 : Nat) : Int) := by omega
        refine ⟨g - 1, by omega, k + 1, by omega, by rw [hct]; rfl, m.set (fun _ => rfl) _, ?_⟩
        rw [← hstep]
        have : renF x y l[k] = (y, rr[k].2) := by unfold renF; rw [if_pos ho, hrk]
        rw [this]
        exact st_eq hp'
      · rw [if_neg (by rw [ho]; decide), Nat.add_zero] at hct
        intro c hc
        rw [IntWalk.i64_in _ (by omega)] at hc
        obtain rfl : c = ((k + 1 : Nat) : Int) := by omega
        refine ⟨g - 1, by omega, k + 1, by omega, by rw [hct]; rfl, m, ?_⟩
        rw [← hstep]
        have : renF x y l[k] = rr[k] := by unfold renF; rw [if_neg (by rw [ho]; decide), hrk]
        rw [this, List.set_getElem_self]
        exact hp'
    · have hd := of_decide_eq_false hd
      rw [List.take_of_length_le (by omega), List.drop_of_length_le (by omega), List.append_nil] at hp'
      rw [List.take_of_length_le (by omega)]
      refine h _ ⟨_, hb', ?_, hrb⟩ ⟨m.wide fun q _ e => .inr (by rw [e]), .inl rfl⟩
      have ek : (fldL (renW x y l)).length = l.length := by rw [fldL_len]; simp [renW]
      have := HR.hs (st := st') p cap (fldL (renW x y l)) ⟨⟨zs, hp', by rw [ek]; exact hzl⟩, fldL_el _, by omega⟩
      rw [ek] at this
      exact this
end
end Go.Proofs.YtookaenbpfpegaaDoor
