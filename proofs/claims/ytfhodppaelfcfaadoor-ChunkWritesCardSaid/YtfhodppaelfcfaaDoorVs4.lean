/- The operations over abstract values: structs, addresses, indexes, slices, literals. No statement of its own. -/
import Derived.Test.YtfhodppaelfcfaaDoorVs3
namespace Go.Proofs.YtfhodppaelfcfaaDoor
open Go.RowKit

section
variable {base : Nat} {J : Nat → Nat → Prop} {w0 : World} {st : St} {μ : Nat → Nat} {σ : Nat → Tkt} {w w' : World} {P : Program} {T : Tab} {K : AV → St → Prop}

theorem Rp.sl_inv {I : Nat → Nat → Prop} {hl : Nat} {tk : List Nat} {t : Tk} {sz : Nat} {es : List (List AV)} {v : Value} (h : Rp w I hl μ tk σ (.sl t sz es) v) :
    (t = .no ∧ es = [] ∧ ∃ a cap, v = .slice a 0 cap ∧ cap ≤ maxLen) ∨ ∃ (g o cap : Nat) (us : Nat → Nat → Value), v = .slice (some ⟨g, o, none⟩) es.length cap ∧ (∀ (k : Nat) (e : List AV), es[k]? = some e → e.length = sz ∧ e.all AV.flat = true) ∧ es.length ≤ cap ∧ cap ≤ maxLen ∧
      (∀ (k : Nat) (e : List AV) (j : Nat) (a : AV), es[k]? = some e → e[j]? = some a → I g (o + k * sz + j) ∧ w.cell? ⟨g, o + k * sz + j, none⟩ = some (us k j)) ∧
      (∀ (k : Nat) (e : List AV) (j : Nat) (a : AV), es[k]? = some e → e[j]? = some a → Rp w I hl μ tk σ a (us k j)) ∧ (t = .tight → cap = es.length) ∧
      (∀ i e, t = .own i e → ∃ e0, tk[i]? = some e0 ∧ e ≤ e0 ∧ (e = e0 → cap ≠ es.length → (σ i).g = g ∧ o + es.length * sz = (σ i).endc ∧ o + cap * sz = (σ i).capc)) := by
  cases h with
  | sl0 sz a cap hm => exact .inl ⟨rfl, rfl, a, cap, rfl, hm⟩
  | sl t sz es g o cap us hs hn hm hc hr ht1 ht2 => exact .inr ⟨g, o, cap, us, rfl, hs, hn, hm, hc, hr, ht1, ht2⟩

theorem extract_sound {x : AV} {a : Value} {i : Nat} {K1 : AV → Prop} (hx : At base J st μ σ w x a) (hv : vcExt x i K1) : Pu P w (At base J st μ σ w) (Instr.extract a i) K1 := by
  unfold vcExt at hv
  cases x <;> try exact hv.elim
  case tup vs =>
    simp only at hv
    split at hv
    · rename_i v hi
      cases hx
      rename_i us h1 hr
      have hj := (List.getElem?_eq_some_iff.1 hi).1
      have hu : us[i]? = some us[i] := Array.getElem?_eq_getElem (by omega)
      exact ⟨us[i], v, by simp [Instr.extract, hu], hv, hr i v _ hi hu⟩
    · exact hv.elim

theorem nilCheck_sound (h : Ok base J w0 st μ σ w) {ρ : Operand → AV} {ρc : Operand → Value} (hρ : ∀ x, At base J st μ σ w (ρ x) (ρc x)) {o : Oper} {x : Operand} (ho : o.op = .nilCheck x)
    (hv : vcOp P T (.nilCheck x) ρ st K) : Fin P (NN base J w0 st μ σ w K) ((execOp ρc o).run P w) := by
  simp only [vcOp] at hv
  have hx := hρ x
  simp only [execOp, ho]
  split at hv
  · rename_i p off he
    rw [he] at hx
    generalize hv2 : ρc x = v at hx ⊢
    cases hx
    exact NN.same h hv (.ptr p off ‹_›)
  · rename_i es he
    rw [he] at hx
    generalize hv2 : ρc x = v at hx ⊢
    cases hx
    exact NN.same h hv (.elt _ _ _ _ ‹_› ‹_› ‹_›)
  · rename_i f us vs he
    rw [he] at hx
    generalize hv2 : ρc x = v at hx ⊢
    cases hx
    exact NN.same h hv (.lit _)
  · rename_i f us vs he
    rw [he] at hx
    generalize hv2 : ρc x = v at hx ⊢
    cases hx
    exact NN.same h hv (.fn _ _ _ _ _ ‹_› ‹_› ‹_› ‹_›)
  · exact hv.elim

theorem fieldPlace_run (hT : T.Ok P) {fd : Go.Field} {n : Nat} (hz : (T fd.type).map TI.size = some (n + 1)) (b o : Nat) : (fieldPlace ⟨b, o, none⟩ fd).run P w = .ok ⟨b, o + fd.offset, none⟩ w := by
  obtain ⟨i, hi, hs⟩ := Option.map_eq_some_iff.1 hz
  unfold fieldPlace
  rw [Sem.run_bind, hT.size hi, hs]
  simp [Addr.add_lit]

theorem fieldAddr_sound (hT : T.Ok P) (h : Ok base J w0 st μ σ w) {ρ : Operand → AV} {ρc : Operand → Value} (hρ : ∀ x, At base J st μ σ w (ρ x) (ρc x)) {o : Oper} {s : TypeId} {x : Operand} {f : Nat} (ho : o.op = .fieldAddr s x f)
    (hv : vcOp P T (.fieldAddr s x f) ρ st K) : Fin P (NN base J w0 st μ σ w K) ((execOp ρc o).run P w) := by
  simp only [vcOp] at hv
  have hx := hρ x
  simp only [execOp, ho]
  split at hv
  · rename_i fs hd
    have hu := hT.und hd
    split at hv
    · rename_i fd hfd
      split at hv
      · rename_i n hz
        split at hv
        · rename_i p off he
          rw [he] at hx
          generalize hv2 : ρc x = v at hx ⊢
          cases hx
          refine Pu.fin h ⟨.pointer (some ⟨μ p, off + fd.offset, none⟩), _, ?_, hv, .ptr p _ ‹_›⟩ rfl
          simp [Instr.fieldAt, run_underlying hu, hfd, Instr.sureAddr, fieldPlace_run hT hz]
        · rename_i es he
          rw [he] at hx
          generalize hv2 : ρc x = v at hx ⊢
          cases hx
          rename_i g o2 us hf hc hr
          refine Pu.fin h ⟨.pointer (some ⟨g, o2 + fd.offset, none⟩), _, ?_, hv, .elt _ g (o2 + fd.offset) (fun j => us (fd.offset + j)) ?_ (fun j a ha => ?_) (fun j a ha => ?_)⟩ rfl
          · simp [Instr.fieldAt, run_underlying hu, hfd, Instr.sureAddr, fieldPlace_run hT hz]
          · exact List.all_eq_true.2 fun y hy => List.all_eq_true.1 hf y (List.mem_of_mem_drop hy)
          · rw [List.getElem?_drop] at ha
            rw [Nat.add_assoc]
            exact hc _ a ha
          · rw [List.getElem?_drop] at ha
            exact hr _ a ha
        · exact hv.elim
      · exact hv.elim
    · exact hv.elim
  · exact hv.elim

theorem part_sound (hT : T.Ok P) {t : TypeId} {i : TI} (ht : T t = some i) {cs : List AV} {us : Array Value} {off : Nat} {K1 : AV → Prop} (h : ldA i cs off K1)
    (h1 : cs.length = us.size) (hr : ∀ (j : Nat) a u, cs[j]? = some a → us[j]? = some u → At base J st μ σ w a u) : Pu P w (At base J st μ σ w) (part t us off) K1 := by
  unfold ldA at h
  unfold Pu part
  simp only [Sem.run_bind, hT.isAgg ht, Result.andThen_ok]
  cases hA : isAggD i.desc
  · rw [hA] at h
    simp only at h
    cases hx : cs[off]? with
    | none => rw [hx] at h; exact h.elim
    | some a =>
      rw [hx] at h
      have hj := (List.getElem?_eq_some_iff.1 hx).1
      have hu : us[off]? = some us[off] := Array.getElem?_eq_getElem (by omega)
      exact ⟨us[off], a, by simp [hu], h, hr off a _ hx hu⟩
  · rw [hA] at h
    simp only at h
    split at h
    case h_2 => exact h.elim
    rename_i hle
    have hle := of_decide_eq_true hle
    have hk := listK_iff.1 h
    refine ⟨.agg (us.extract off (off + i.size)), _, by simp [hT.size ht], hk, .agg _ _ (by simp; omega) (fun j a u ha hu => ?_)⟩
    have hj : j < i.size := by
      have := (Array.getElem?_eq_some_iff.1 hu).1
      simp at this
      omega
    rw [List.getElem?_take, if_pos hj, List.getElem?_drop] at ha
    refine hr _ a u ha ?_
    rw [Array.getElem?_extract] at hu
    simp at hu
    obtain ⟨_, hu⟩ := hu
    rw [hu]

theorem field_sound (hT : T.Ok P) (h : Ok base J w0 st μ σ w) {ρ : Operand → AV} {ρc : Operand → Value} (hρ : ∀ x, At base J st μ σ w (ρ x) (ρc x)) {o : Oper} {s : TypeId} {x : Operand} {f : Nat} (ho : o.op = .field s x f)
    (hv : vcOp P T (.field s x f) ρ st K) : Fin P (NN base J w0 st μ σ w K) ((execOp ρc o).run P w) := by
  simp only [vcOp] at hv
  have hx := hρ x
  simp only [execOp, ho]
  split at hv
  · rename_i fs hd
    have hu := hT.und hd
    split at hv
    · rename_i fd hfd
      split at hv
      · rename_i i hi
        split at hv
        · rename_i cs he
          rw [he] at hx
          generalize hv2 : ρc x = v at hx ⊢
          cases hx
          rename_i us e1 hr
          obtain ⟨v, r, q1, q2, q3⟩ := part_sound hT hi hv e1 hr
          exact Pu.fin h ⟨v, r, by simp [Instr.field, run_underlying hu, hfd, asAgg, q1], q2, q3⟩ rfl
        · exact hv.elim
      · exact hv.elim
    · exact hv.elim
  · exact hv.elim

theorem indexAddr_sound (hT : T.Ok P) (h : Ok base J w0 st μ σ w) {ρ : Operand → AV} {ρc : Operand → Value} (hρ : ∀ x, At base J st μ σ w (ρ x) (ρc x)) {o : Oper} {t : TypeId} {x ix : Operand} (ho : o.op = .indexAddr t x ix)
    (hv : vcOp P T (.indexAddr t x ix) ρ st K) : Fin P (NN base J w0 st μ σ w K) ((execOp ρc o).run P w) := by
  simp only [vcOp] at hv
  have hx := hρ x
  have hi := hρ ix
  simp only [execOp, ho]
  split at hv
  · rename_i e hd
    have hu := hT.und hd
    split at hv
    · rename_i tg sz es he
      rw [he] at hx
      split at hv
      · rename_i k n hn
        rw [hn] at hi
        split at hv
        · rename_i hsz
          have hsz := of_decide_eq_true hsz
          obtain ⟨ie, hie, hs⟩ := Option.map_eq_some_iff.1 hsz
          obtain ⟨j, el, hj, hel, hk⟩ := hv
          rw [hi.of_lit]
          generalize hv2 : ρc x = v at hx ⊢
          have hjl := (List.getElem?_eq_some_iff.1 hel).1
          rcases hx.sl_inv with ⟨_, rfl, _⟩ | ⟨g, o2, cap, us, rfl, hs', hn', hm, hc, hr, ht1, ht2⟩
          · simp at hjl
          · have hw : (Instr.indexAt t (.slice (some ⟨g, o2, none⟩) es.length cap) (.int k n)).run P w = .ok (.pointer (some ⟨g, o2 + j * sz, none⟩)) w := by
              have c1 : (0 ≤ n ∧ n < (es.length : Int)) := by omega
              have c2 : n.toNat = j := by omega
              simp only [Instr.indexAt, Sem.run_bind, asIntOf, Sem.run_pure, Result.andThen_ok, run_underlying hu, if_pos c1, hT.size hie, hs, c2, Addr.add_lit]
            exact Pu.fin h ⟨_, _, hw, hk, .elt el g (o2 + j * sz) (us j) (hs' j el hel).2 (fun q a ha => hc j el q a hel ha) (fun q a ha => hr j el q a hel ha)⟩ rfl
        · exact hv.elim
      · exact hv.elim
    · rename_i p lo n cap sz he
      rw [he] at hx
      split at hv
      · rename_i k q hn
        rw [hn] at hi
        split at hv
        · rename_i hsz
          have hsz := of_decide_eq_true hsz
          obtain ⟨ie, hie, hs⟩ := Option.map_eq_some_iff.1 hsz
          obtain ⟨j, hj, hjl, hk⟩ := hv
          rw [hi.of_lit]
          generalize hv2 : ρc x = v at hx ⊢
          cases hx with
          | hs _ _ _ _ _ hp hnc hm =>
            have hw : (Instr.indexAt t (.slice (some ⟨μ p, lo, none⟩) n cap) (.int k q)).run P w = .ok (.pointer (some ⟨μ p, lo + j * sz, none⟩)) w := by
              have c1 : (0 ≤ q ∧ q < (n : Int)) := by omega
              have c2 : q.toNat = j := by omega
              simp only [Instr.indexAt, Sem.run_bind, asIntOf, Sem.run_pure, Result.andThen_ok, run_underlying hu, if_pos c1, hT.size hie, hs, c2, Addr.add_lit]
            exact Pu.fin h ⟨_, _, hw, hk, .ptr p _ hp⟩ rfl
        · exact hv.elim
      · exact hv.elim
    · exact hv.elim
  · rename_i na e hd
    have hu := hT.und hd
    split at hv
    · rename_i p lo he
      rw [he] at hx
      split at hv
      · rename_i k q hn
        rw [hn] at hi
        split at hv
        · rename_i sz hsz
          obtain ⟨ie, hie, hs⟩ := Option.map_eq_some_iff.1 hsz
          obtain ⟨j, hj, hjl, hk⟩ := hv
          rw [hi.of_lit]
          generalize hv2 : ρc x = v at hx ⊢
          cases hx with
          | ptr _ _ hp =>
            have hw : (Instr.indexAt t (.pointer (some ⟨μ p, lo, none⟩)) (.int k q)).run P w = .ok (.pointer (some ⟨μ p, lo + j * sz, none⟩)) w := by
              have c1 : (0 ≤ q ∧ q < (na : Int)) := by omega
              have c2 : q.toNat = j := by omega
              simp only [Instr.indexAt, Sem.run_bind, asIntOf, Sem.run_pure, Result.andThen_ok, run_underlying hu, Instr.sureAddr, if_pos c1, hT.size hie, hs, c2, Addr.add_lit]
            exact Pu.fin h ⟨_, _, hw, hk, .ptr p _ hp⟩ rfl
        · exact hv.elim
      · exact hv.elim
    · exact hv.elim
  · exact hv.elim

theorem index_sound (hT : T.Ok P) (h : Ok base J w0 st μ σ w) {ρ : Operand → AV} {ρc : Operand → Value} (hρ : ∀ x, At base J st μ σ w (ρ x) (ρc x)) {o : Oper} {t : TypeId} {x ix : Operand} (ho : o.op = .index t x ix)
    (hv : vcOp P T (.index t x ix) ρ st K) : Fin P (NN base J w0 st μ σ w K) ((execOp ρc o).run P w) := by
  simp only [vcOp] at hv
  have hx := hρ x
  have hi := hρ ix
  simp only [execOp, ho]
  split at hv
  · rename_i hd
    have hu := hT.und hd
    split at hv
    · rename_i s he
      rw [he] at hx
      split at hv
      · rename_i k n hn
        rw [hn] at hi
        obtain ⟨j, hj, hnj, hk⟩ := hv
        rw [hi.of_lit, hx.of_lit]
        have hw : (Instr.index t (.string s) (.int k n)).run P w = .ok (.int .u8 (s[j].toNat : Int)) w := by
          subst hnj
          have c1 : (0 : Int) ≤ (j : Int) := by omega
          have c3 : s[j]? = some s[j] := getElem?_pos s j hj
          simp [Instr.index, asIntOf, run_underlying hu, c3]
        exact Pu.fin h ⟨_, _, hw, hk, .lit _⟩ rfl
      · exact hv.elim
    · exact hv.elim
  · exact hv.elim

theorem fill_sound (hT : T.Ok P) {fs : Array Go.Field} {places : Array (Nat × Nat)} (hpl : ∀ (i : Nat) f fi, fs[i]? = some f → T f.type = some fi → places[i]? = some (f.offset, fi.size)) :
    ∀ (ps : List (Nat × AV)) (qs : List (Nat × Value)) (cs cs' : List AV) (us : Array Value), ps.length = qs.length → (∀ (j : Nat) p q, ps[j]? = some p → qs[j]? = some q → p.1 = q.1 ∧ At base J st μ σ w p.2 q.2) →
      cs.length = us.size → (∀ (j : Nat) a u, cs[j]? = some a → us[j]? = some u → At base J st μ σ w a u) → fillA T fs ps cs = some cs' →
      ∃ us', Instr.fill (places[·]?) us qs = some us' ∧ cs'.length = us'.size ∧ ∀ (j : Nat) a u, cs'[j]? = some a → us'[j]? = some u → At base J st μ σ w a u
  | [], [], cs, cs', us, _, _, h1, h2, hf => by
    simp only [fillA, Option.some.injEq] at hf
    subst hf
    exact ⟨us, rfl, h1, h2⟩
  | [], _ :: _, _, _, _, h, _, _, _, _ => by simp at h
  | _ :: _, [], _, _, _, h, _, _, _, _ => by simp at h
  | (i, v) :: ps, (i', u) :: qs, cs, cs', us, hl, hr, h1, h2, hf => by
    obtain ⟨hii, hvu⟩ := hr 0 _ _ rfl rfl
    simp only at hii hvu
    subst hii
    unfold fillA at hf
    split at hf
    · cases hf
    · rename_i f hfi
      split at hf
      · cases hf
      · rename_i fi hfi2
        split at hf
        · rename_i hck
          simp only [Bool.and_eq_true] at hck
          obtain ⟨⟨⟨k1, k2⟩, k3⟩, k4⟩ := hck
          have k1 := of_decide_eq_true k1
          have k2 := of_decide_eq_true k2
          obtain ⟨c1, c2⟩ := hvu.cells k3
          have hp := hpl i f fi hfi hfi2
          have hcond : (u.cells.size ≠ fi.size || decide (f.offset + u.cells.size > us.size)) = false := by
            have e1 : u.cells.size = fi.size := by omega
            have e2 : ¬ (f.offset + u.cells.size > us.size) := by omega
            simp [e1]
            omega
          have key : ∀ (n : Nat), n ≤ u.cells.size → ((u.cells.zipIdx.toList.take n).foldl (fun cs (c, j) => cs.setIfInBounds (f.offset + j) c) us).size = us.size ∧
              ∀ (q : Nat), ((u.cells.zipIdx.toList.take n).foldl (fun (cs : Array Value) (c, j) => cs.setIfInBounds (f.offset + j) c) us)[q]? = if f.offset ≤ q ∧ q < f.offset + n then u.cells[q - f.offset]? else us[q]? := by
            intro n
            induction n with
            | zero => intro _; exact ⟨rfl, fun q => by rw [if_neg (by omega)]; rfl⟩
            | succ n ih =>
              intro hn
              obtain ⟨i1, i2⟩ := ih (by omega)
              have hz : u.cells.zipIdx.toList[n]? = some (u.cells[n], n) := by
                simp
              have hlen : n < u.cells.zipIdx.toList.length := (List.getElem?_eq_some_iff.1 hz).1
              have htk : u.cells.zipIdx.toList.take (n + 1) = u.cells.zipIdx.toList.take n ++ [(u.cells[n], n)] := by
                rw [List.take_add_one, hz]; rfl
              rw [htk, List.foldl_append]
              refine ⟨by simpa using i1, fun q => ?_⟩
              simp only [List.foldl_cons, List.foldl_nil]
              rw [Array.getElem?_setIfInBounds]
              by_cases e : f.offset + n = q
              · subst e
                have hin : f.offset + n < us.size := by omega
                rw [if_pos rfl, if_pos (by rw [i1]; exact hin), if_pos (by omega)]
                simp
              · rw [if_neg e, i2 q]
                by_cases h3 : f.offset ≤ q ∧ q < f.offset + n
                · rw [if_pos h3, if_pos (by omega)]
                · rw [if_neg h3, if_neg (by omega)]
          obtain ⟨g1, g2⟩ := key u.cells.size (Nat.le_refl _)
          have hall : u.cells.zipIdx.toList.take u.cells.size = u.cells.zipIdx.toList := List.take_of_length_le (by simp)
          rw [hall] at g1 g2
          have hfold : u.cells.zipIdx.foldl (fun (cs : Array Value) (c, j) => cs.setIfInBounds (f.offset + j) c) us = u.cells.zipIdx.toList.foldl (fun (cs : Array Value) (c, j) => cs.setIfInBounds (f.offset + j) c) us := by rw [← Array.foldl_toList]
          obtain ⟨us', r1, r2, r3⟩ := fill_sound hT hpl ps qs (setAll cs f.offset v.cells) cs' (u.cells.zipIdx.foldl (fun (cs : Array Value) (c, j) => cs.setIfInBounds (f.offset + j) c) us) (by simpa using hl)
            (fun j p q hp hq => hr (j + 1) p q hp hq) (by rw [setAll_length, hfold, g1, h1]) (fun j a b ha hb => by
              rw [hfold, g2 j] at hb
              rw [setAll_get _ _ _ _ (by omega)] at ha
              by_cases hj : f.offset ≤ j ∧ j < f.offset + v.cells.length
              · rw [if_pos hj] at ha
                rw [if_pos (by omega)] at hb
                exact c2 _ a b ha hb
              · rw [if_neg hj] at ha
                rw [if_neg (by omega)] at hb
                exact h2 j a b ha hb) hf
          refine ⟨us', ?_, r2, r3⟩
          simp only [Instr.fill, hp]
          rw [if_neg (by rw [hcond]; decide)]
          exact r1
        · cases hf
end
end Go.Proofs.YtfhodppaelfcfaaDoor
