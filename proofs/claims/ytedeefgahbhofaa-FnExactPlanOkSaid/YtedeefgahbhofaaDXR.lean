import Derived.Test.YtedeefgahbhofaaDXT
import Derived.Test.YtedeefgahbhofaaDRow
set_option linter.unusedVariables false
namespace Go.D
open Go.Proofs
theorem rd_3 : Rd Try.prog 3 Int intW := rd_int Try.underlying3 (by kernel_rfl)
theorem rd_4 : Rd Try.prog 4 Bool boolW := rd_bool Try.underlying4 (by kernel_rfl)
def W_T_laws_Column (x : T_laws_Column) : Prop := intW x.fKind ∧ boolW x.fEmpty
theorem spl_128 (cs : List Value) (hc : cs.length = 2) : cs = (cs.drop 0).take 1 ++ ((cs.drop 1).take 1) := by
  match cs, hc with
  | [c0, c1], _ => rfl
theorem rd_128 : Rd Try.prog 128 T_laws_Column W_T_laws_Column := ⟨by kernel_rfl, fun H enc w base sp held fuel cs x h => by
  obtain ⟨xs, n, _, rfl, hl, hlen, hf⟩ := DataW.trod_struct Try.underlying128 h
  match xs, hlen, hf with
  | [z0, z1], _, hf =>
  obtain ⟨y0, h0, w0⟩ := (rd_3).2 H enc w base sp held n _ _ (hf 0 _ rfl)
  obtain ⟨y1, h1, w1⟩ := (rd_4).2 H enc w base sp held n _ _ (hf 1 _ rfl)
  refine ⟨⟨y0, y1⟩, ?_, w0, w1⟩
  have hc : cs.length = 2 := hl.trans (by kernel_rfl)
  have h0 : FrL w (fun _ => False) (Enc.cells y0) ((cs.drop 0).take (Try.prog.cellsOf 3)) := h0
  rw [rd_3.1] at h0
  have k0 : FrL w (fun _ => False) (Enc.cells y0) ((cs.drop 0).take 1) := h0
  have h1 : FrL w (fun _ => False) (Enc.cells y1) ((cs.drop 1).take (Try.prog.cellsOf 4)) := h1
  rw [rd_4.1] at h1
  have k1 : FrL w (fun _ => False) (Enc.cells y1) ((cs.drop 1).take 1) := h1
  rw [spl_128 cs hc]
  exact (FrL.append k0 k1)⟩
theorem rd_49 : Rd Try.prog 49 (List T_laws_Column) (listW W_T_laws_Column) := rd_slice Try.underlying49 (by kernel_rfl) rd_128
theorem rd_9 : Rd Try.prog 9 ByteArray strW := rd_str Try.underlying9 (by kernel_rfl)
def W_T_laws_Value (x : T_laws_Value) : Prop := intW x.fKind ∧ intW x.fN ∧ strW x.fS
theorem spl_121 (cs : List Value) (hc : cs.length = 3) : cs = (cs.drop 0).take 1 ++ ((cs.drop 1).take 1 ++ ((cs.drop 2).take 1)) := by
  match cs, hc with
  | [c0, c1, c2], _ => rfl
theorem rd_121 : Rd Try.prog 121 T_laws_Value W_T_laws_Value := ⟨by kernel_rfl, fun H enc w base sp held fuel cs x h => by
  obtain ⟨xs, n, _, rfl, hl, hlen, hf⟩ := DataW.trod_struct Try.underlying121 h
  match xs, hlen, hf with
  | [z0, z1, z2], _, hf =>
  obtain ⟨y0, h0, w0⟩ := (rd_3).2 H enc w base sp held n _ _ (hf 0 _ rfl)
  obtain ⟨y1, h1, w1⟩ := (rd_3).2 H enc w base sp held n _ _ (hf 1 _ rfl)
  obtain ⟨y2, h2, w2⟩ := (rd_9).2 H enc w base sp held n _ _ (hf 2 _ rfl)
  refine ⟨⟨y0, y1, y2⟩, ?_, w0, w1, w2⟩
  have hc : cs.length = 3 := hl.trans (by kernel_rfl)
  have h0 : FrL w (fun _ => False) (Enc.cells y0) ((cs.drop 0).take (Try.prog.cellsOf 3)) := h0
  rw [rd_3.1] at h0
  have k0 : FrL w (fun _ => False) (Enc.cells y0) ((cs.drop 0).take 1) := h0
  have h1 : FrL w (fun _ => False) (Enc.cells y1) ((cs.drop 1).take (Try.prog.cellsOf 3)) := h1
  rw [rd_3.1] at h1
  have k1 : FrL w (fun _ => False) (Enc.cells y1) ((cs.drop 1).take 1) := h1
  have h2 : FrL w (fun _ => False) (Enc.cells y2) ((cs.drop 2).take (Try.prog.cellsOf 9)) := h2
  rw [rd_9.1] at h2
  have k2 : FrL w (fun _ => False) (Enc.cells y2) ((cs.drop 2).take 1) := h2
  rw [spl_121 cs hc]
  exact (FrL.append k0 (FrL.append k1 k2))⟩
theorem rd_119 : Rd Try.prog 119 (List T_laws_Value) (listW W_T_laws_Value) := rd_slice Try.underlying119 (by kernel_rfl) rd_121
theorem rd_50 : Rd Try.prog 50 (List (List T_laws_Value)) (listW (listW W_T_laws_Value)) := rd_slice Try.underlying50 (by kernel_rfl) rd_119
def W_T_laws_Table (x : T_laws_Table) : Prop := (listW W_T_laws_Column) x.fColumns ∧ (listW (listW W_T_laws_Value)) x.fRows
theorem spl_52 (cs : List Value) (hc : cs.length = 2) : cs = (cs.drop 0).take 1 ++ ((cs.drop 1).take 1) := by
  match cs, hc with
  | [c0, c1], _ => rfl
theorem rd_52 : Rd Try.prog 52 T_laws_Table W_T_laws_Table := ⟨by kernel_rfl, fun H enc w base sp held fuel cs x h => by
  obtain ⟨xs, n, _, rfl, hl, hlen, hf⟩ := DataW.trod_struct Try.underlying52 h
  match xs, hlen, hf with
  | [z0, z1], _, hf =>
  obtain ⟨y0, h0, w0⟩ := (rd_49).2 H enc w base sp held n _ _ (hf 0 _ rfl)
  obtain ⟨y1, h1, w1⟩ := (rd_50).2 H enc w base sp held n _ _ (hf 1 _ rfl)
  refine ⟨⟨y0, y1⟩, ?_, w0, w1⟩
  have hc : cs.length = 2 := hl.trans (by kernel_rfl)
  have h0 : FrL w (fun _ => False) (Enc.cells y0) ((cs.drop 0).take (Try.prog.cellsOf 49)) := h0
  rw [rd_49.1] at h0
  have k0 : FrL w (fun _ => False) (Enc.cells y0) ((cs.drop 0).take 1) := h0
  have h1 : FrL w (fun _ => False) (Enc.cells y1) ((cs.drop 1).take (Try.prog.cellsOf 50)) := h1
  rw [rd_50.1] at h1
  have k1 : FrL w (fun _ => False) (Enc.cells y1) ((cs.drop 1).take 1) := h1
  rw [spl_52 cs hc]
  exact (FrL.append k0 k1)⟩
theorem rd_22 : Rd Try.prog 22 (List T_laws_Table) (listW W_T_laws_Table) := rd_slice Try.underlying22 (by kernel_rfl) rd_52
def W_T_laws_Part (x : T_laws_Part) : Prop := intW x.fKind ∧ intW x.fN ∧ W_T_laws_Value x.fV
theorem spl_123 (cs : List Value) (hc : cs.length = 5) : cs = (cs.drop 0).take 1 ++ ((cs.drop 1).take 1 ++ ((cs.drop 2).take 3)) := by
  match cs, hc with
  | [c0, c1, c2, c3, c4], _ => rfl
theorem rd_123 : Rd Try.prog 123 T_laws_Part W_T_laws_Part := ⟨by kernel_rfl, fun H enc w base sp held fuel cs x h => by
  obtain ⟨xs, n, _, rfl, hl, hlen, hf⟩ := DataW.trod_struct Try.underlying123 h
  match xs, hlen, hf with
  | [z0, z1, z2], _, hf =>
  obtain ⟨y0, h0, w0⟩ := (rd_3).2 H enc w base sp held n _ _ (hf 0 _ rfl)
  obtain ⟨y1, h1, w1⟩ := (rd_3).2 H enc w base sp held n _ _ (hf 1 _ rfl)
  obtain ⟨y2, h2, w2⟩ := (rd_121).2 H enc w base sp held n _ _ (hf 2 _ rfl)
  refine ⟨⟨y0, y1, y2⟩, ?_, w0, w1, w2⟩
  have hc : cs.length = 5 := hl.trans (by kernel_rfl)
  have h0 : FrL w (fun _ => False) (Enc.cells y0) ((cs.drop 0).take (Try.prog.cellsOf 3)) := h0
  rw [rd_3.1] at h0
  have k0 : FrL w (fun _ => False) (Enc.cells y0) ((cs.drop 0).take 1) := h0
  have h1 : FrL w (fun _ => False) (Enc.cells y1) ((cs.drop 1).take (Try.prog.cellsOf 3)) := h1
  rw [rd_3.1] at h1
  have k1 : FrL w (fun _ => False) (Enc.cells y1) ((cs.drop 1).take 1) := h1
  have h2 : FrL w (fun _ => False) (Enc.cells y2) ((cs.drop 2).take (Try.prog.cellsOf 121)) := h2
  rw [rd_121.1] at h2
  have k2 : FrL w (fun _ => False) (Enc.cells y2) ((cs.drop 2).take 3) := h2
  rw [spl_123 cs hc]
  exact (FrL.append k0 (FrL.append k1 k2))⟩
theorem rd_54 : Rd Try.prog 54 (List T_laws_Part) (listW W_T_laws_Part) := rd_slice Try.underlying54 (by kernel_rfl) rd_123
theorem rd_40 : Rd Try.prog 40 (List Int) (listW intW) := rd_slice Try.underlying40 (by kernel_rfl) rd_3
def W_T_laws_Step (x : T_laws_Step) : Prop := intW x.fKind ∧ intW x.fA ∧ intW x.fB ∧ intW x.fN ∧ (listW W_T_laws_Part) x.fE ∧ (listW intW) x.fList
theorem spl_56 (cs : List Value) (hc : cs.length = 6) : cs = (cs.drop 0).take 1 ++ ((cs.drop 1).take 1 ++ ((cs.drop 2).take 1 ++ ((cs.drop 3).take 1 ++ ((cs.drop 4).take 1 ++ ((cs.drop 5).take 1))))) := by
  match cs, hc with
  | [c0, c1, c2, c3, c4, c5], _ => rfl
theorem rd_56 : Rd Try.prog 56 T_laws_Step W_T_laws_Step := ⟨by kernel_rfl, fun H enc w base sp held fuel cs x h => by
  obtain ⟨xs, n, _, rfl, hl, hlen, hf⟩ := DataW.trod_struct Try.underlying56 h
  match xs, hlen, hf with
  | [z0, z1, z2, z3, z4, z5], _, hf =>
  obtain ⟨y0, h0, w0⟩ := (rd_3).2 H enc w base sp held n _ _ (hf 0 _ rfl)
  obtain ⟨y1, h1, w1⟩ := (rd_3).2 H enc w base sp held n _ _ (hf 1 _ rfl)
  obtain ⟨y2, h2, w2⟩ := (rd_3).2 H enc w base sp held n _ _ (hf 2 _ rfl)
  obtain ⟨y3, h3, w3⟩ := (rd_3).2 H enc w base sp held n _ _ (hf 3 _ rfl)
  obtain ⟨y4, h4, w4⟩ := (rd_54).2 H enc w base sp held n _ _ (hf 4 _ rfl)
  obtain ⟨y5, h5, w5⟩ := (rd_40).2 H enc w base sp held n _ _ (hf 5 _ rfl)
  refine ⟨⟨y0, y1, y2, y3, y4, y5⟩, ?_, w0, w1, w2, w3, w4, w5⟩
  have hc : cs.length = 6 := hl.trans (by kernel_rfl)
  have h0 : FrL w (fun _ => False) (Enc.cells y0) ((cs.drop 0).take (Try.prog.cellsOf 3)) := h0
  rw [rd_3.1] at h0
  have k0 : FrL w (fun _ => False) (Enc.cells y0) ((cs.drop 0).take 1) := h0
  have h1 : FrL w (fun _ => False) (Enc.cells y1) ((cs.drop 1).take (Try.prog.cellsOf 3)) := h1
  rw [rd_3.1] at h1
  have k1 : FrL w (fun _ => False) (Enc.cells y1) ((cs.drop 1).take 1) := h1
  have h2 : FrL w (fun _ => False) (Enc.cells y2) ((cs.drop 2).take (Try.prog.cellsOf 3)) := h2
  rw [rd_3.1] at h2
  have k2 : FrL w (fun _ => False) (Enc.cells y2) ((cs.drop 2).take 1) := h2
  have h3 : FrL w (fun _ => False) (Enc.cells y3) ((cs.drop 3).take (Try.prog.cellsOf 3)) := h3
  rw [rd_3.1] at h3
  have k3 : FrL w (fun _ => False) (Enc.cells y3) ((cs.drop 3).take 1) := h3
  have h4 : FrL w (fun _ => False) (Enc.cells y4) ((cs.drop 4).take (Try.prog.cellsOf 54)) := h4
  rw [rd_54.1] at h4
  have k4 : FrL w (fun _ => False) (Enc.cells y4) ((cs.drop 4).take 1) := h4
  have h5 : FrL w (fun _ => False) (Enc.cells y5) ((cs.drop 5).take (Try.prog.cellsOf 40)) := h5
  rw [rd_40.1] at h5
  have k5 : FrL w (fun _ => False) (Enc.cells y5) ((cs.drop 5).take 1) := h5
  rw [spl_56 cs hc]
  exact (FrL.append k0 (FrL.append k1 (FrL.append k2 (FrL.append k3 (FrL.append k4 k5)))))⟩
theorem rd_23 : Rd Try.prog 23 (List T_laws_Step) (listW W_T_laws_Step) := rd_slice Try.underlying23 (by kernel_rfl) rd_56
end Go.D
