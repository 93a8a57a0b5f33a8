import Derived.Test.YtpngnbmfhnjjmaaGreatLefDCast
set_option linter.unusedVariables false
namespace Go.D
def maxL : Int → List Int → Int
  | a, [] => a
  | a, b :: r => maxL (if b > a then b else a) r
def minL : Int → List Int → Int
  | a, [] => a
  | a, b :: r => minL (if b < a then b else a) r
def intsOf : List V → Option (List Int)
  | [] => some []
  | .lit (.int .i64 n) :: r => (intsOf r).map (n :: ·)
  | _ :: _ => none
section
variable {P : Program} {Γ : Ctx} {τ : Tau}
theorem run_maxL (w : World) : ∀ (l : List Int) (a : Int), ((l.map (Value.int .i64)).foldlM Builtin.max2 (.int .i64 a)).run P w = .ok (.int .i64 (maxL a l)) w
  | [], a => by simp [maxL]
  | b :: l, a => by
    simp only [List.map_cons, List.foldlM_cons, Sem.run_bind]
    have : (Builtin.max2 (.int .i64 a) (.int .i64 b)).run P w = .ok (.int .i64 (if b > a then b else a)) w := by
      simp only [Builtin.max2]
      split <;> simp_all
    rw [this]
    simp only [Result.andThen_ok]
    rw [run_maxL w l]
    rfl
theorem run_minL (w : World) : ∀ (l : List Int) (a : Int), ((l.map (Value.int .i64)).foldlM Builtin.min2 (.int .i64 a)).run P w = .ok (.int .i64 (minL a l)) w
  | [], a => by simp [minL]
  | b :: l, a => by
    simp only [List.map_cons, List.foldlM_cons, Sem.run_bind]
    have : (Builtin.min2 (.int .i64 a) (.int .i64 b)).run P w = .ok (.int .i64 (if b < a then b else a)) w := by
      simp only [Builtin.min2]
      split <;> simp_all
    rw [this]
    simp only [Result.andThen_ok]
    rw [run_minL w l]
    rfl
theorem intsOf_sl {w : World} {M : Nat → Prop} {H : Hp} {μ : Nat → Option Nat} : ∀ {xs : List V} {us : List Value} {l : List Int}, SlL w M H μ xs us → intsOf xs = some l → us = l.map (Value.int .i64)
  | [], us, l, h, hl => by simp only [intsOf, Option.some.injEq] at hl; subst hl; simpa [SlL] using h
  | x :: xs, us, l, h, hl => by
    simp only [SlL] at h
    obtain ⟨u, us', rfl, h1, h2⟩ := h
    unfold intsOf at hl
    split at hl
    · simp_all
    · rename_i n r heq
      simp only [List.cons.injEq] at heq
      obtain ⟨rfl, rfl⟩ := heq
      cases hr : intsOf xs with
      | none => rw [hr] at hl; cases hl
      | some l' =>
        rw [hr, Option.map_some, Option.some.injEq] at hl
        subst hl
        simp only [Sl] at h1
        rw [h1, intsOf_sl h2 hr, List.map_cons]
    · cases hl
def mxmV (τ : Tau) (ops : Array Oper) (j : Nat) (st : St) : Option (Nat × Bool × Int × List Int) :=
  match opAt ops st j with
  | some o => match o.op, dstOf st o with
    | .call c, some d => match c.callee, evalAll st c.args.toList with
      | .builtin .max, some xs => match intsOf xs with
        | some (a :: l) => some (d, true, a, l)
        | _ => none
      | .builtin .min, some xs => match intsOf xs with
        | some (a :: l) => some (d, false, a, l)
        | _ => none
      | _, _ => none
    | _, _ => none
  | none => none
theorem mxmV_sound {ops : Array Oper} {j : Nat} {st : St} {d : Nat} {m : Bool} {a : Int} {l : List Int} (h : mxmV τ ops j st = some (d, m, a, l)) :
    ∃ o, AtOp ops st j o ∧ o.dst = some d ∧ d < st.nt ∧ Yld P Γ o st (I (bif m then maxL a l else minL a l)) := by
  unfold mxmV at h
  split at h
  · rename_i o ho
    split at h
    · rename_i c d' hop hd
      have hd' := dstOf_spec hd
      split at h
      · rename_i xs hc hx
        split at h
        · rename_i a' l' hi
          cases h
          refine ⟨o, opAt_spec ho, hd'.1, hd'.2, fun ac w M μ fp G O hS => ?_⟩
          have hus := intsOf_sl (evalAll_sound hS hx) hi
          have he : c.args.map ac.eval = (Value.int .i64 a :: l.map (Value.int .i64)).toArray := by
            apply Array.toList_inj.1
            rw [Array.toList_map, hus, List.map_cons]
          refine ⟨.int .i64 (maxL a l), w, ?_, Kept.refl _ w, by simp only [cond_true, Sl]⟩
          have := run_maxL (P := P) w l a
          simp only [execOp, hop, resolve, hc, he, Sem.run_bind, Sem.run_pure, Result.andThen_ok, invoke, builtin, Builtin.max_, this]
        · cases h
      · rename_i xs hc hx
        split at h
        · rename_i a' l' hi
          cases h
          refine ⟨o, opAt_spec ho, hd'.1, hd'.2, fun ac w M μ fp G O hS => ?_⟩
          have hus := intsOf_sl (evalAll_sound hS hx) hi
          have he : c.args.map ac.eval = (Value.int .i64 a :: l.map (Value.int .i64)).toArray := by
            apply Array.toList_inj.1
            rw [Array.toList_map, hus, List.map_cons]
          refine ⟨.int .i64 (minL a l), w, ?_, Kept.refl _ w, by simp only [cond_false, Sl]⟩
          have := run_minL (P := P) w l a
          simp only [execOp, hop, resolve, hc, he, Sem.run_bind, Sem.run_pure, Result.andThen_ok, invoke, builtin, Builtin.min_, this]
        · cases h
      · cases h
    · cases h
  · cases h
def ghostN : Nat → Hp → Hp
  | 0, H => H
  | n + 1, H => ghostN n (setH H H.length (some ⟨0, []⟩))
theorem Imp.ghosts : ∀ (n : Nat) {st st' : St}, { st with H := ghostN n st.H } = st' → Imp Γ st st'
  | 0, st, st', h => by subst h; exact Imp.refl _
  | n + 1, st, st', h => by
    subst h
    exact (Imp.ghost (st := st)).trans (Imp.ghosts n (st := { st with H := setH st.H st.H.length (some ⟨0, []⟩) }) rfl)
theorem app_Ew {α : Type} [Enc α] (hT : TOK P τ) {ops : Array Oper} {j : Nat} {st : St} (d k ver : Nat) (hpin : ∀ i b, Γ.L i b → k ≠ i) {xs ys zs : List α} (hz : app xs ys = some zs)
    (h : appV τ ops j st = some ⟨d, k, ver, Enc.sz α, xs.length, eL xs, ys.length, eL ys⟩) : CoreE P Γ ops j st (some d) (setH st.H k (some ⟨ver + 1, eL zs⟩)) (.ref k (ver + 1) 0 (Enc.sz α) zs.length false) := by
  refine app_E hT d k ver xs.length hpin ?_ (Nat.le_refl _) h
  unfold app at hz
  unfold appT
  rw [List.take_length]
  exact hz
theorem Imp.mvS {st st' : St} (k k' : Nat) (ks : List Nat) (hpin : ∀ i b, Γ.L i b → k ≠ i ∧ k' ≠ i) {v : Nat} {cs : List V} (h : blkAt st.H k v = some ⟨v, cs⟩) (h' : st.H[k']? = some none) (hf : blkFrz st.H) (ho : mvLOK k' st.tmps = true)
    (he : St.keep { st with tmps := mvL k k' st.tmps, H := (st.H.set k none).set k' (some ⟨v, cs⟩) } ks = st') : Imp Γ st st' := by
  subst he
  exact (Imp.mvKey k k' hpin h h' hf ho).trans (Imp.keep ks)
theorem mk_E {α : Type} [Enc α] (hT : TOK P τ) {ops : Array Oper} {j : Nat} {st : St} (d k ver : Nat) (hpin : ∀ i b, Γ.L i b → k ≠ i) {blk : Blk} (hb : blkAt st.H k ver = some blk) {n : Int} (z : α) {zs : List α} (hz : mkI n z = some zs) (h : mksV τ ops j st = some ⟨d, Enc.sz α, Enc.cells z, n⟩) :
    CoreE P Γ ops j st (some d) (setH st.H k (some ⟨ver + 1, eL zs⟩)) (.ref k (ver + 1) 0 (Enc.sz α) zs.length false) := by
  obtain ⟨b1, b2⟩ := blkAt_spec hb
  subst b2
  have hkl : k < st.H.length := (List.getElem?_eq_some_iff.1 b1).1
  unfold mkI at hz
  split at hz
  · rename_i hn
    cases hz
    unfold mksV at h
    split at h
    · rename_i o ho
      split at h
      · rename_i t l c d' hop hd
        split at h
        · rename_i e ti kl n' kc m' hs hl hc
          cases hcc : (sameOp l c && Nat.beq ti.zero.length ti.size && Nat.ble ti.bytes 1024) with
          | false => rw [hcc] at h; cases h
          | true =>
            rw [hcc, cond_true] at h
            simp only [Option.some.injEq, MkI.mk.injEq] at h
            obtain ⟨rfl, hsz, hzero, rfl⟩ := h
            simp only [Bool.and_eq_true] at hcc
            obtain ⟨⟨hso, hzl⟩, hbytes⟩ := hcc
            have hso := sameOp_eq hso hl hc
            subst hso
            have hzl := Nat.eq_of_beq_eq_true hzl
            have hbytes := Nat.le_of_ble_eq_true hbytes
            have hd' := dstOf_spec hd
            refine ⟨o, opAt_spec ho, hd'.1, (fun d e => by cases e; exact hd'.2), fun a w M μ fp G O hS K Qc hK => ?_⟩
            obtain ⟨hu, hj⟩ := sliceOf_spec hT hs
            obtain ⟨inf, dd, zv, g1, g2, g3, g4, g5, g6, g7, g8, g9⟩ := hj
            have hlv := evalV_sound hS hl
            have hcv := evalV_sound hS hc
            simp only [Sl] at hlv hcv
            obtain ⟨N, hN⟩ : ∃ N : Nat, m' = (N : Int) := ⟨m'.toNat, by omega⟩
            subst hN
            have hb2 : (inf.bytes : Int) * (N : Int) ≤ 281474976710656 := by
              have e1 : inf.bytes * N ≤ 1024 * 68719476736 := Nat.mul_le_mul (by rw [g4]; exact hbytes) (by omega)
              have e2 : ((inf.bytes * N : Nat) : Int) ≤ 281474976710656 := by omega
              rwa [Int.natCast_mul] at e2
            have hrun := run_make (P := P) w t e inf zv hu g1 g5 kl kc N N (by omega) (Int.le_refl _) hb2 (by omega)
            simp only [Int.toNat_natCast] at hrun
            have hx : (execOp a.eval o).run P w = .ok (.value (.slice (some ⟨w.heap.size, 0, none⟩) N N)) (w.alloc (.cells (madeCells zv.cells (N * inf.size)) e)) := by
              simp only [execOp, hop, hlv, hcv]
              rw [Sem.run_bind, hrun]
              rfl
            have hpos : 0 < Enc.sz α := Enc.pos
            have hzc := g6 w M
            have hzs : zv.cells.size = Enc.sz α := by
              have := hzc.length
              simp only [Array.length_toList] at this
              omega
            have hms : (madeCells zv.cells (N * inf.size)).size = N * Enc.sz α := by rw [size_madeCells, g3, hsz]
            have hfr : FrL w M (eL (List.replicate N z)) (madeCells zv.cells (N * inf.size)).toList := by
              refine FrL.get_of ?_ fun i x u hi hu => ?_
              · rw [eL_len, List.length_replicate, Array.length_toList, hms]
              · have hilt : i < N * Enc.sz α := by
                  have := (List.getElem?_eq_some_iff.1 hi).1
                  rwa [eL_len, List.length_replicate] at this
                rw [eL_rep_get N z hilt] at hi
                rw [← hzero] at hi
                obtain ⟨v, hv1, hv2⟩ := hzc.get hi
                have hu' : u = v := by
                  simp only [madeCells, Array.toList_map, Array.toList_range, List.getElem?_map, List.getElem?_range (show i < N * inf.size by rw [g3, hsz]; exact hilt), Option.map_some, Option.some.injEq] at hu
                  rw [← hu, hzs]
                  rw [Array.getElem?_toList] at hv1
                  rw [getElem!_def, hv1]
                rw [hu']
                exact hv2
            obtain ⟨M', μ', fp', G', O', C, hm⟩ := new_blockK O hpin b1 (Kept.refl _ w) rfl (c := madeCells zv.cells (N * inf.size)) (e := e) (hfr.sl (H := st.H) (μ := μ)) (by simp) (fun j hj => by simp)
            simp only [Oper.wp, hx, Oper.upon]
            simp only [Int.toNat_natCast] at hK
            refine hK _ _ M' μ' fp' G' O' C ?_
            simp only [Sl]
            refine ⟨by rw [setH_ge hkl]; exact hkl, ⟨_, _, _, rfl⟩, fun blk' hb' => ?_⟩
            rw [setH_same (Nat.le_of_lt hkl)] at hb'
            cases hb'
            refine ⟨Nat.le_refl _, fun _ => ?_⟩
            rw [List.length_replicate]
            refine .inr ⟨_, N, madeCells zv.cells (N * inf.size), e, hm, rfl, hpos, Nat.le_refl _, by unfold maxI; omega, (fun h => by cases h), ?_, by rw [hms]; omega⟩
            show (w.heap.push _)[w.heap.size]? = _
            simp
        · cases h
      · cases h
    · cases h
  · cases hz
end
end Go.D
