import Derived.Test.YtamegkbinbplaaatlbDHeap2
set_option linter.unusedVariables false
namespace Go.D
section
variable {P : Program} {Γ : Ctx} {τ : Tau}
theorem opP_store (hT : TOK P τ) {K : St → Prop} {o : Oper} {t : Nat} {i : TI} {y x : Operand} {v : V} {xs cells' : List V} {k ver off : Nat} {blk : Blk} {st : St}
  (ho : o.op = .store t y x) (hd : o.dst = none) (ht : τ t = some i) (hy : evalV st y = some (.ptr k ver off)) (hb : blkAt st.H k ver = some blk) (hx : evalV st x = some v) (hv : valCells (soft (tyV τ t v)) = some xs)
  (hone : xs.all cellV = true) (hsz : xs.length = i.size) (hle : off + xs.length ≤ blk.cells.length) (hc : setL blk.cells off xs = cells')
  (hk : K { st with H := setH st.H k (some ⟨ver, cells'⟩) }) : opP P Γ o K st := by
 intro a w r Qc
 obtain ⟨h1, h2, M, μ, fp, G, O, hS⟩ := r
 obtain ⟨b1, b2⟩ := blkAt_spec hb
 obtain ⟨b, hm, hptr⟩ := (evalV_sound hS hy).ptr_at hb
 obtain ⟨us, hus, hsl⟩ := valCells_sound hv (soft_sl (tyV_sound (evalV_sound hS hx)))
 have hlen := hsl.length
 obtain ⟨c, e, ws, hh, hce, hlie⟩ := O.at_ hb hm
 have hwl := hce.length
 obtain ⟨_, hcl⟩ := hlie.heap hh
 have hfit : off + us.length ≤ c.size := by omega
 have hszr := run_sizeOf' (hT t i ht) w
 have hst : (storeCells ⟨b, off, none⟩ us).run P w = .ok () (w.setCells b off us) := by
  have := run_storeCells_cells (P := P) b off us 0 w (fun j hj => by rw [cell_of_heap hh, Nat.add_zero, Array.getElem?_eq_getElem (by omega)]; rfl) (fun j hj => frozen_of_heap hh _) (hsl.one hone)
  rwa [Nat.add_zero] at this
 have hrun : (execOp a.eval o).run P w = .ok .skip (w.setCells b off us) := by
  have hsize : ¬ (us.toArray.size ≠ i.size) := by simp; omega
  simp only [execOp, ho, hptr, Instr.storeAt, Instr.sureAddr, storeVar, hus, Sem.run_bind, Sem.run_pure, Result.andThen_ok, hszr, hsize, if_false, hst]
 simp only [Oper.wp, hrun, Oper.upon]
 obtain ⟨fp', G', O', C⟩ := write_block (ver := ver) (cells' := cells') O b1 hm (by omega) hsl hh hfit (fun ws' f hce' => by
  subst hc
  obtain ⟨f1, f2, rfl, h3, h4⟩ := hce'.split off
  obtain ⟨f3, f4, rfl, h5, h6⟩ := h4.split xs.length
  rw [List.drop_drop, List.drop_drop] at h6
  have hl' := hce'.length
  refine ⟨ws'.take off ++ us ++ ws'.drop (off + us.length), f1 ++ f4, ?_, ?_, fun hwc hw j hj => ?_⟩
  ·have h7 := (h3.append hsl.ceL).append h6
   rw [List.append_nil, ← hlen] at h7
   unfold setL
   rw [← hlen]
   exact h7
  ·exact List.Sublist.append (List.Sublist.refl _) (List.sublist_append_right _ _)
  ·exact splice_get (by omega) (by simpa using hwc) hw j hj)
 refine ⟨_, hk, ?_⟩
 have := R.step (d := none) (x := .any) (u := undef) h1 h2 hS C O' (fun d' hd' => by cases hd') fun h => absurd rfl h
 rw [hd]
 exact this
end
end Go.D
