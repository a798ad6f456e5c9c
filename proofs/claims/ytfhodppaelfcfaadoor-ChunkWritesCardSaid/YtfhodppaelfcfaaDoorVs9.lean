/- What the conditions over abstract values say holds of the model's run of the code. No statement of its own. -/
import Derived.Test.YtfhodppaelfcfaaDoorVs8
namespace Go.Proofs.YtfhodppaelfcfaaDoor
open Go.RowKit

section
variable {base : Nat} {J : Nat → Nat → Prop} {w0 : World} {st : St} {μ : Nat → Nat} {σ : Nat → Tkt} {w w' : World} {P : Program} {T : Tab} {K : AV → St → Prop}

theorem bytes_row (b : ByteArray) {n : Nat} (us : List Value) (hu : ∀ j (hj : j < b.data.toList.length), us[j]? = some (.int .u8 (b.data.toList[j].toNat : Int))) (hl : us.length = n) (hn : n = b.data.toList.length) : Row base J st μ σ w 1 (b.data.toList.map fun c => [AV.u8 c]) us := by
  refine ⟨by simp [hl, hn], fun k e he => ?_, fun k e j a he ha => ?_⟩
  · simp only [List.getElem?_map, Option.map_eq_some_iff] at he
    obtain ⟨c, hc, rfl⟩ := he
    exact ⟨rfl, rfl⟩
  · simp only [List.getElem?_map, Option.map_eq_some_iff] at he
    obtain ⟨c, hc, rfl⟩ := he
    have hj : j = 0 := by
      have := (List.getElem?_eq_some_iff.1 ha).1
      simp at this
      exact this
    subst hj
    simp at ha
    subst ha
    obtain ⟨hk, hk'⟩ := List.getElem?_eq_some_iff.1 hc
    refine ⟨_, ?_, .lit _⟩
    rw [Nat.mul_one, Nat.add_zero, hu k hk, hk']

theorem convert_sound (hT : T.Ok P) (h : Ok base J w0 st μ σ w) {ρ : Operand → AV} {ρc : Operand → Value} (hρ : ∀ x, At base J st μ σ w (ρ x) (ρc x)) {o : Oper} {src dst : TypeId} {x : Operand} (ho : o.op = .convert src dst x)
    (hv : vcOp P T (.convert src dst x) ρ st K) : Fin P (NN base J w0 st μ σ w K) ((execOp ρc o).run P w) := by
  simp only [vcOp, listK_iff, listLK_iff, AV.fc_iff] at hv
  have hx := hρ x
  split at hv
  · exact hv.elim
  · rename_i ds hds
    have hus := hT.und hds
    split at hv
    · rename_i k hd
      have hud := hT.und hd
      split at hv
      · rename_i k' n he
        rw [he] at hx
        have e : (execOp ρc o).run P w = .ok (.value (.int k (k.wrap n))) w := by
          cases ds <;> simp [execOp, ho, hx.of_lit, convert, run_underlying hus, run_underlying hud, Conv.intToInt]
        rw [e]
        exact NN.same h (hv _ rfl) (.lit _)
      · exact hv.elim
    · rename_i hd
      have hud := hT.und hd
      split at hv
      · split at hv
        · rename_i s he
          rw [he] at hx
          have e : (execOp ρc o).run P w = .ok (.value (.string s)) w := by
            simp [execOp, ho, hx.of_lit, convert, run_underlying hus, run_underlying hud]
          rw [e]
          exact NN.same h hv (.lit _)
        · exact hv.elim
      · rename_i e
        split at hv
        · rename_i hde
          have hue := hT.und hde
          split at hv
          · rename_i tg sz es he
            rw [he] at hx
            split at hv
            · rename_i hsz
              have hsz := of_decide_eq_true hsz
              subst hsz
              obtain ⟨b, rfl, hk⟩ := hv
              have hb : (⟨b.data.toList.toArray⟩ : ByteArray) = b := by cases b; simp
              rcases hx.sl_inv with ⟨_, h0, a, cap, hv2, hm⟩ | ⟨g, o2, cap, us, hv2, hs', hn', hm, hc, hr, ht1, ht2⟩
              · have h1 : b.data.toList = [] := by simpa using h0
                have hbe : b = ⟨#[]⟩ := by rw [← hb, h1]
                have e : (execOp ρc o).run P w = .ok (.value (.string b)) w := by
                  cases a with
                  | none =>
                    have := run_convert_bytes_string (P := P) w src dst e none 0 cap hus hue hud
                    simp [execOp, ho, hv2, this, Conv.bytesToString, hbe]
                    rfl
                  | some a =>
                    have := run_convert_bytes_back (P := P) w src dst e a cap [] hus hue hud (fun j hj => by simp at hj)
                    simp only [List.length_nil] at this
                    simp [execOp, ho, hv2, this, hbe]
                rw [e]
                exact NN.same h hk (.lit _)
              · have := run_convert_bytes_back (P := P) w src dst e ⟨g, o2, none⟩ cap b.data.toList hus hue hud (fun j hj => by
                  have h1 : (b.data.toList.map fun c => [AV.u8 c])[j]? = some [AV.u8 b.data.toList[j]] := by simp [List.getElem?_map, List.getElem?_eq_getElem hj]
                  obtain ⟨q1, q2⟩ := hc j _ 0 _ h1 rfl
                  have q3 := (hr j _ 0 _ h1 rfl).of_lit
                  rw [Addr.add_lit]
                  rw [Nat.mul_one, Nat.add_zero] at q2
                  rw [q2, q3])
                rw [hb] at this
                simp only [List.length_map] at hv2
                have e : (execOp ρc o).run P w = .ok (.value (.string b)) w := by
                  simp only [execOp, ho, hv2, Sem.run_bind, this, Result.andThen_ok, Sem.run_pure]
                rw [e]
                exact NN.same h hk (.lit _)
            · exact hv.elim
          · rename_i n cap he
            rw [he] at hx
            have := run_convert_bytes_string (P := P) w src dst e none n cap hus hue hud
            have e : (execOp ρc o).run P w = .ok (.value (.string .empty)) w := by
              simp [execOp, ho, hx.of_lit, this, Conv.bytesToString]
            rw [e]
            exact NN.same h hv (.lit _)
          · rename_i p lo n cap sz he
            rw [he] at hx
            split at hv
            · obtain ⟨cs, b, hcs, rfl, hat, hk⟩ := hv
              have hb : (⟨b.data.toList.toArray⟩ : ByteArray) = b := by cases b; simp
              have hbl : b.data.toList.length = b.size := data_len b
              generalize hv2 : ρc x = v at hx
              cases hx with
              | hs _ _ _ _ _ hp hnc hm =>
                obtain ⟨_, us, TT, hbk, hlen, hr⟩ := h.hp p cs hcs
                have := run_convert_bytes_back (P := P) w src dst e ⟨μ p, lo, none⟩ cap b.data.toList hus hue hud (fun j hj => by
                  have h1 := hat j (by omega)
                  have h2 := (List.getElem?_eq_some_iff.1 h1).1
                  have h3 : us[lo + j]? = some us[lo + j] := Array.getElem?_eq_getElem (by omega)
                  rw [Addr.add_lit, cell_block hbk, h3, ((hr _ _ _ h1 h3).2.2).of_lit]
                  rfl)
                rw [hb, hbl] at this
                have e : (execOp ρc o).run P w = .ok (.value (.string b)) w := by
                  simp only [execOp, ho, hv2, Sem.run_bind, this, Result.andThen_ok, Sem.run_pure]
                rw [e]
                exact NN.same h hk (.lit _)
            · exact hv.elim
          · exact hv.elim
        · exact hv.elim
      · exact hv.elim
    · rename_i e hd
      have hud := hT.und hd
      split at hv
      · split at hv
        · rename_i hde
          have hue := hT.und hde
          split at hv
          · rename_i s he
            rw [he] at hx
            have hrun := run_bytes_of_string (P := P) w src dst e s hus hud hue
            have e1 : (execOp ρc o).run P w = .ok (.value (.slice (some ⟨w.heap.size, 0, none⟩) s.size (grownCap w s.size 0 e))) (w.drew.alloc (.cells (bytesRow s (grownCap w s.size 0 e)) e ((bytesRow s (grownCap w s.size 0 e)).size, (bytesRow s (grownCap w s.size 0 e)).size + 1))) := by
              simp only [execOp, ho, hx.of_lit, Sem.run_bind, hrun, Result.andThen_ok, Sem.run_pure]
            rw [e1]
            obtain ⟨hsm, hk⟩ := hv
            obtain ⟨ok', ext'⟩ := h.step ((below_drew w).alloc (by simp) (.cells (bytesRow s (grownCap w s.size 0 e)) e ((bytesRow s (grownCap w s.size 0 e)).size, (bytesRow s (grownCap w s.size 0 e)).size + 1)))
            refine ⟨_, _, _, _, hk, ok', ext', ?_⟩
            have hrow := bytes_row (base := base) (J := J) (st := st) (μ := μ) (σ := σ) (w := w.drew.alloc (.cells (bytesRow s (grownCap w s.size 0 e)) e ((bytesRow s (grownCap w s.size 0 e)).size, (bytesRow s (grownCap w s.size 0 e)).size + 1))) s (n := s.data.toList.length) (s.data.toList.map fun c => .int .u8 (c.toNat : Int)) (fun j hj => by simp [List.getElem?_map, List.getElem?_eq_getElem hj]) (by simp) rfl
            have := hrow.sl .no w.heap.size 0 (grownCap w s.size 0 e) (by rw [List.length_map, data_len]; exact grownCap_ge w s.size 0 e) (grownCap_le_maxLen w s.size 0 e hsm) (fun j u hu => ⟨h.im_new (Nat.le_refl _) _, ?_⟩) (fun h => by cases h) (fun i' e' h => by cases h)
            · rw [List.length_map, data_len] at this
              exact this
            · have hj := (List.getElem?_eq_some_iff.1 hu).1
              rw [List.length_map, data_len] at hj
              have hc := World.cell?_alloc_mark w.drew (bytesRow s (grownCap w s.size 0 e)) e ((bytesRow s (grownCap w s.size 0 e)).size, (bytesRow s (grownCap w s.size 0 e)).size + 1) j
              have hws : w.drew.heap.size = w.heap.size := rfl
              rw [hws] at hc
              rw [Nat.zero_add, hc, bytesRow, Array.getElem?_append_left (by rw [Array.size_map]; exact hj)]
              rw [← hu]
              simp
          · exact hv.elim
        · exact hv.elim
      · exact hv.elim
    · exact hv.elim

theorem eqGuard_run {op : BinOp} {t : TypeId} {x y : AV} {a b : Value} {K1 : AV → Prop} (ox oy : Operand) (hx : At base J st μ σ w x a) (hy : At base J st μ σ w y b) (hv : vcBin P T op t x y K1) :
    (eqGuard op t ox oy a b).run P w = .ok () w := by
  unfold vcBin at hv
  split at hv
  · split at hv
    · have hg := (Bool.or_eq_false_iff.1 hv.1).2
      cases hx
      cases hy
      cases op <;> simp [eqGuard, hg]
    · exact hv.elim
  all_goals first | (cases hx; cases hy; (cases op <;> rfl)) | exact hv.elim

theorem vcOp_sound (hT : T.Ok P) (h : Ok base J w0 st μ σ w) {ρ : Operand → AV} {ρc : Operand → Value} (hρ : ∀ x, At base J st μ σ w (ρ x) (ρc x)) {o : Oper}
    (hv : vcOp P T o.op ρ st K) : Fin P (NN base J w0 st μ σ w K) ((execOp ρc o).run P w) := by
  cases ho : o.op <;> rw [ho] at hv
  case move x => simp only [vcOp, AV.fc_iff] at hv; simp only [execOp, ho]; exact NN.same h hv (hρ x)
  case assign x => simp only [vcOp, AV.fc_iff] at hv; simp only [execOp, ho]; exact NN.same h hv (hρ x)
  case pick c a b =>
    simp only [vcOp, listK_iff, listLK_iff, AV.fc_iff] at hv
    split at hv
    · rename_i t he
      have hc := hρ c
      rw [he] at hc
      have hc := hc.of_lit
      cases t
      · have e : (execOp ρc o).run P w = .ok (.value (ρc b)) w := by simp [execOp, ho, hc, asBool]
        rw [e]; exact NN.same h hv (hρ b)
      · have e : (execOp ρc o).run P w = .ok (.value (ρc a)) w := by simp [execOp, ho, hc, asBool]
        rw [e]; exact NN.same h hv (hρ a)
    · exact hv.elim
  case binOp op t x y ty =>
    simp only [vcOp, listK_iff, listLK_iff, AV.fc_iff] at hv
    obtain ⟨v, r, q1, q2, q3⟩ := vcBin_sound hT (hρ x) (hρ y) hv
    have hg := eqGuard_run (P := P) x y (hρ x) (hρ y) hv
    have e : (execOp ρc o).run P w = .ok (.value v) w := by
      simp [execOp, ho, hg, q1]
    rw [e]
    exact NN.same h q2 q3
  case unOp op t x =>
    simp only [vcOp, listK_iff, listLK_iff, AV.fc_iff] at hv
    exact Pu.fin h (vcUn_sound (hρ x) hv) (by simp only [execOp, ho])
  case extract x i =>
    simp only [vcOp, listK_iff, listLK_iff, AV.fc_iff] at hv
    exact Pu.fin h (K := K) (extract_sound (i := i) (hρ x) hv) (by simp only [execOp, ho])
  case load t a => exact load_sound hT h hρ ho hv
  case store t a x => exact store_sound hT h hρ ho hv
  case alloc t => exact alloc_sound (ρ := ρ) hT h ho hv
  case box t x => exact box_sound (T := T) h hρ ho hv
  case build t parts => exact build_sound hT h hρ ho hv
  case buildSlice t len parts => exact buildSlice_sound hT h hρ ho hv
  case nilCheck x => exact nilCheck_sound (T := T) h hρ ho hv
  case fieldAddr s x f => exact fieldAddr_sound hT h hρ ho hv
  case field s x f => exact field_sound hT h hρ ho hv
  case indexAddr t x ix => exact indexAddr_sound hT h hρ ho hv
  case index t x ix => exact index_sound hT h hρ ho hv
  case slice t x lo hi mx =>
    cases mx with
    | none => exact vcSlice_sound hT h hρ ho hv
    | some m => simp only [vcOp, listK_iff, listLK_iff, AV.fc_iff] at hv
  case makeFunc f first captured =>
    simp only [vcOp, listK_iff, listLK_iff, AV.fc_iff] at hv
    have e : (execOp ρc o).run P w = .ok (.value (.func f (first.map ρc) (captured.map ρc))) w := by simp [execOp, ho, Instr.makeFunc]
    rw [e]
    have hm : ∀ (args : Array Operand) (j : Nat) a u, (args.toList.map ρ)[j]? = some a → (args.map ρc)[j]? = some u → At base J st μ σ w a u := fun args j a u ha hu => by
      simp only [List.getElem?_map, Option.map_eq_some_iff] at ha
      obtain ⟨x, hx, rfl⟩ := ha
      rw [Array.getElem?_toList] at hx
      simp [hx] at hu
      subst hu
      exact hρ x
    exact NN.same h hv (.fn f _ _ _ _ (by simp) (by simp) (hm first) (hm captured))
  case convert src dst x => exact convert_sound hT h hρ ho hv
  case call c => exact call_sound hT h hρ ho hv
  all_goals simp only [vcOp, listK_iff, listLK_iff, AV.fc_iff] at hv

end
end Go.Proofs.YtfhodppaelfcfaaDoor
