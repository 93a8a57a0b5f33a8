import Derived.Test.YtamegkbinbplaaatlbDBack
set_option linter.unusedVariables false
namespace Go.D
theorem BlindL.append {xs ys : List V} (h : BlindL xs) (k : BlindL ys) : BlindL (xs ++ ys) := by
 intro w M M' v fp hh
 have key : ∀ (o : List V) (v : List Value) (fp : List Nat) (M : Nat → Prop), OwL w M (o ++ ys) v fp ↔ ∃ v1 v2 f1 f2, v = v1 ++ v2 ∧ fp = f1 ++ f2 ∧ OwL w M o v1 f1 ∧ OwL w M ys v2 f2 := by
  intro o
  induction o with
  | nil =>
   intro v fp M
   constructor
   ·exact fun h => ⟨[], v, [], fp, rfl, rfl, by simp [OwL], h⟩
   ·rintro ⟨v1, v2, f1, f2, rfl, rfl, h1, h2⟩
    simp only [OwL] at h1
    obtain ⟨rfl, rfl⟩ := h1
    exact h2
  | cons c o ih =>
   intro v fp M
   constructor
   ·intro h
    simp only [List.cons_append, OwL] at h
    obtain ⟨u, us', f, f', rfl, rfl, h1, h2⟩ := h
    obtain ⟨v1, v2, f1, f2, rfl, rfl, h3, h4⟩ := (ih _ _ _).1 h2
    exact ⟨u :: v1, v2, f ++ f1, f2, rfl, by simp, by simp only [OwL]; exact ⟨u, v1, f, f1, rfl, rfl, h1, h3⟩, h4⟩
   ·rintro ⟨v1, v2, f1, f2, rfl, rfl, h1, h2⟩
    simp only [OwL] at h1
    obtain ⟨u, us', f, f', rfl, rfl, h3, h4⟩ := h1
    simp only [List.cons_append, OwL]
    exact ⟨u, us' ++ v2, f, f' ++ f2, rfl, by simp, h3, (ih _ _ _).2 ⟨us', v2, f', f2, rfl, rfl, h4, h2⟩⟩
 obtain ⟨v1, v2, f1, f2, rfl, rfl, h1, h2⟩ := (key xs v fp M).1 hh
 exact (key xs _ _ M').2 ⟨v1, v2, f1, f2, rfl, rfl, h w M M' _ _ h1, k w M M' _ _ h2⟩
class DEnc (α : Type) [Enc α] where
 cells : α → List V
 len : ∀ x, (cells x).length = Enc.sz α
 fz : ∀ x, FzToL (cells x) (Enc.cells x)
 oc : ∀ x, (cells x).all ownC = true
class DBl (α : Type) [Enc α] [DEnc α] : Prop where
 bl : ∀ x : α, BlindL (DEnc.cells x)
def dL {α : Type} [Enc α] [DEnc α] : List α → List V
 | [] => []
 | x :: xs => DEnc.cells x ++ dL xs
abbrev OD {α : Type} [Enc α] [DEnc α] (xs : List α) : V := .own (Enc.sz α) xs.length (dL xs) false
section
variable {α : Type} [Enc α] [DEnc α]
theorem dL_len : ∀ (xs : List α), (dL xs).length = xs.length * Enc.sz α
 | [] => by simp [dL]
 | x :: xs => by simp only [dL, List.length_append, DEnc.len, dL_len xs, List.length_cons, Nat.add_mul, Nat.one_mul]; omega
theorem dL_oc : ∀ (xs : List α), (dL xs).all ownC = true
 | [] => rfl
 | x :: xs => by simp only [dL, List.all_append, DEnc.oc, dL_oc xs, Bool.and_self]
theorem dL_fz : ∀ (xs : List α), FzToL (dL xs) (eL xs)
 | [] => FzToL.nil
 | x :: xs => by simp only [dL, eL]; exact (DEnc.fz x).append (dL_fz xs)
theorem dL_bl [DBl α] : ∀ (xs : List α), BlindL (dL xs)
 | [] => BlindL.nil
 | x :: xs => by simp only [dL]; exact (DBl.bl x).append (dL_bl xs)
theorem FzTo.OD (xs : List α) : FzTo (D.OD xs) (A xs) := FzTo.own (by rw [eL_len, dL_len]) (dL_fz xs)
theorem Blind.OD [DBl α] (xs : List α) : Blind (D.OD xs) := Blind.own (dL_bl xs)
theorem dL_append : ∀ (xs ys : List α), dL (xs ++ ys) = dL xs ++ dL ys
 | [], ys => rfl
 | x :: xs, ys => by simp only [List.cons_append, dL, dL_append xs ys, List.append_assoc]
theorem dL_drop : ∀ (xs : List α) (i : Nat), (dL xs).drop (i * Enc.sz α) = dL (xs.drop i)
 | xs, 0 => by simp
 | [], i + 1 => by simp [dL]
 | x :: xs, i + 1 => by
  simp only [dL, List.drop_succ_cons]
  rw [List.drop_append, DEnc.len, ← dL_drop xs i]
  have : (DEnc.cells x).drop ((i + 1) * Enc.sz α) = [] := List.drop_eq_nil_of_le (by rw [DEnc.len, Nat.add_mul]; omega)
  rw [this, List.nil_append]
  congr 1
  rw [Nat.add_mul]; omega
theorem dL_at {xs : List α} {i : Nat} {x : α} (h : xs[i]? = some x) : ((dL xs).drop (i * Enc.sz α)).take (Enc.sz α) = DEnc.cells x := by
 rw [dL_drop]
 obtain ⟨hi, rfl⟩ := List.getElem?_eq_some_iff.1 h
 rw [List.drop_eq_getElem_cons hi]
 simp only [dL]
 rw [List.take_append, DEnc.len, Nat.sub_self, List.take_zero, List.append_nil]
 exact List.take_of_length_le (by rw [DEnc.len]; exact Nat.le_refl _)
theorem dL_set {xs : List α} {i : Nat} {x y : α} {o : Nat} {vs : List V} (h : xs[i]? = some x) (hy : setL (DEnc.cells x) o vs = DEnc.cells y) (ho : o + vs.length ≤ Enc.sz α) :
  setL (dL xs) (i * Enc.sz α + o) vs = dL (xs.set i y) := by
 obtain ⟨hi, rfl⟩ := List.getElem?_eq_some_iff.1 h
 have e : xs = xs.take i ++ xs[i] :: xs.drop (i + 1) := by rw [← List.drop_eq_getElem_cons hi, List.take_append_drop]
 have hl : (dL (xs.take i)).length = i * Enc.sz α := by rw [dL_len, List.length_take, Nat.min_eq_left (by omega)]
 have es : xs.set i y = xs.take i ++ y :: xs.drop (i + 1) := by rw [List.set_eq_take_append_cons_drop, if_pos hi]
 rw [es]
 conv => lhs; rw [e]
 rw [dL_append, dL_append]
 simp only [dL]
 rw [← hy]
 unfold setL
 have hc : (DEnc.cells xs[i]).length = Enc.sz α := DEnc.len _
 rw [← hl]
 simp only [List.take_append, List.drop_append, List.append_assoc, Nat.add_sub_cancel_left, List.take_of_length_le (Nat.le_add_right _ _)]
 have h1 : (dL (xs.take i)).length + o + vs.length - (dL (xs.take i)).length = o + vs.length := by omega
 have h2 : List.drop ((dL (xs.take i)).length + o + vs.length) (dL (xs.take i)) = [] := List.drop_eq_nil_of_le (by omega)
 have h3 : o - (DEnc.cells xs[i]).length = 0 := by omega
 have h4 : o + vs.length - (DEnc.cells xs[i]).length = 0 := by omega
 rw [h1, h2, h3, h4]
 simp
theorem dL_bound {xs : List α} {i : Nat} {x : α} (h : xs[i]? = some x) {o n : Nat} (ho : o + n ≤ Enc.sz α) : i * Enc.sz α + o + n ≤ (dL xs).length := by
 have hi := (List.getElem?_eq_some_iff.1 h).1
 rw [dL_len]
 calc i * Enc.sz α + o + n ≤ i * Enc.sz α + Enc.sz α := by omega
  _ = (i + 1) * Enc.sz α := by rw [Nat.add_mul, Nat.one_mul]
  _ ≤ xs.length * Enc.sz α := Nat.mul_le_mul_right _ hi
theorem dL_nth {xs : List α} {i : Nat} {x : α} (h : xs[i]? = some x) {o : Nat} (ho : o < Enc.sz α) : (dL xs)[i * Enc.sz α + o]? = (DEnc.cells x)[o]? := by
 have h1 := dL_at h
 rw [← h1, List.getElem?_take, if_pos ho, List.getElem?_drop]
theorem okIn_of_ownC {ks : List Nat} {x : V} (h : ownC x = true) : okIn ks x = true := by cases x <;> simp_all [ownC, okIn, frozenV]
theorem below_of_ownC {n : Nat} {x : V} (h : ownC x = true) : below n x = true := by cases x <;> simp_all [ownC, below]
theorem all_of {p q : V → Bool} (h : ∀ x, p x = true → q x = true) : ∀ {xs : List V}, xs.all p = true → xs.all q = true
 | [], _ => rfl
 | x :: xs, hh => by
  simp only [List.all_cons, Bool.and_eq_true] at hh ⊢
  exact ⟨h x hh.1, all_of h hh.2⟩
theorem dL_okIn (ks : List Nat) (xs : List α) : (dL xs).all (okIn ks) = true := all_of (fun _ h => okIn_of_ownC h) (dL_oc xs)
theorem dL_below (n : Nat) (xs : List α) : (dL xs).all (below n) = true := all_of (fun _ h => below_of_ownC h) (dL_oc xs)
theorem OutP.listD {H : Hp} {k ver v : Nat} {xs : List α} (h : blkAt H k ver = some ⟨v, dL xs⟩) : OutP H (.ref k ver 0 (Enc.sz α) xs.length false) (OD xs) [k] := by
 unfold OutP
 exact ⟨_, h, rfl, (dL_len xs).symm, dL_oc xs, rfl, rfl⟩
theorem View.deep {H : Hp} {k ver v : Nat} {full : Bool} (xs : List α) {n : Nat} (hb : blkAt H k ver = some ⟨v, dL xs⟩) (hn : xs.length = n) : View H (.ref k ver 0 (Enc.sz α) n full) (.arr (Enc.sz α) n (eL xs) full) := by
 subst hn
 intro Γ w M μ fp G u O hs
 have h1 := OutP.sound O (y := .own (Enc.sz α) xs.length (dL xs) full) (ks := [k]) (by unfold OutP; exact ⟨_, hb, rfl, (dL_len xs).symm, dL_oc xs, rfl, rfl⟩) hs
 exact FzTo.own (by rw [eL_len, dL_len]) (dL_fz xs) w (fun _ => False) M u _ h1 (fun b h => h.elim) (fun b _ h => h)
end
class DFlat (α : Type) [Enc α] : Prop where
 lit : ∀ x : α, (Enc.cells x).all litV = true
class DNest (α : Type) : Prop
instance : DFlat Int := ⟨fun _ => rfl⟩
instance : DFlat Bool := ⟨fun _ => rfl⟩
instance : DFlat ByteArray := ⟨fun _ => rfl⟩
instance : DFlat UInt8 := ⟨fun _ => rfl⟩
instance {α : Type} : DNest (List α) := ⟨⟩
theorem O_oc {α : Type} [Enc α] (xs : List α) : (eL xs).all ownC = true := all_of (fun x h => by cases x <;> simp_all [frozenV, ownC]) (eL_frz xs)
instance dencF {α : Type} [Enc α] [DFlat α] : DEnc (List α) := ⟨fun xs => [O xs], fun _ => rfl, fun xs => FzToL.cons (FzTo.O xs) FzToL.nil, fun _ => rfl⟩
instance {α : Type} [Enc α] [DFlat α] : @DBl (List α) _ dencF := @DBl.mk _ _ dencF fun xs => BlindL.cons (Blind.O DFlat.lit xs) BlindL.nil
instance dencN {α : Type} [Enc α] [DEnc α] [DNest α] : DEnc (List α) := ⟨fun xs => [OD xs], fun _ => rfl, fun xs => FzToL.cons (FzTo.OD xs) FzToL.nil, fun _ => rfl⟩
instance {α : Type} [Enc α] [DEnc α] [DNest α] [DBl α] : @DBl (List α) _ dencN := @DBl.mk _ _ dencN fun xs => BlindL.cons (Blind.OD xs) BlindL.nil
theorem OutP.listDn {α : Type} [Enc α] [DEnc α] {H : Hp} {k ver v n : Nat} {xs : List α} (hn : xs.length = n) (h : blkAt H k ver = some ⟨v, dL xs⟩) : OutP H (.ref k ver 0 (Enc.sz α) n false) (OD xs) [k] := by
 subst hn
 exact OutP.listD h
theorem OutP.listn {α : Type} [Enc α] {H : Hp} {k ver v n : Nat} {xs : List α} (hn : xs.length = n) (h : blkAt H k ver = some ⟨v, eL xs⟩) : OutP H (.ref k ver 0 (Enc.sz α) n false) (O xs) [k] := by
 subst hn
 exact OutP.list h
section
variable {P : Program} {Γ : Ctx} {τ : Tau}
def HStep (Γ : Ctx) (H H' : Hp) : Prop := ∀ (w : World) (M : Nat → Prop) (μ : Nat → Option Nat) (fp : Nat → List Nat) (G : Nat → Option Nat), Own Γ M H w μ fp G →
 ∃ μ' fp' G', Own Γ M H' w μ' fp' G' ∧ Carry w M H μ w M H' μ'
theorem HStep.trans {H H1 H2 : Hp} (h : HStep Γ H H1) (k : HStep Γ H1 H2) : HStep Γ H H2 := fun w M μ fp G O => by
 obtain ⟨μ1, fp1, G1, O1, C1⟩ := h w M μ fp G O
 obtain ⟨μ2, fp2, G2, O2, C2⟩ := k w M μ1 fp1 G1 O1
 exact ⟨μ2, fp2, G2, O2, C1.trans C2⟩
theorem CoreE.then {ops : Array Oper} {j : Nat} {st : St} {dd : Option Nat} {H1 H2 : Hp} {x : V} (h : CoreE P Γ ops j st dd H1 x) (k : HStep Γ H1 H2) : CoreE P Γ ops j st dd H2 x := by
 obtain ⟨o, h1, h2, h3, h4⟩ := h
 refine ⟨o, h1, h2, h3, fun a w M μ fp G O hS K Qc hK => ?_⟩
 refine h4 a w M μ fp G O hS K Qc fun u w' M' μ' fp' G' O' C hs => ?_
 obtain ⟨μ2, fp2, G2, O2, C2⟩ := k w' M' μ' fp' G' O'
 exact hK u w' M' μ2 fp2 G2 O2 (C.trans C2) (hs.carry C2)
def emptyK (H : Hp) : List Nat → Hp
 | [] => H
 | k :: ks => match H[k]? with
  | some (some b) => emptyK (H.set k (some ⟨b.ver + 1, []⟩)) ks
  | _ => emptyK H ks
theorem emptyK_len : ∀ (ks : List Nat) (H : Hp), (emptyK H ks).length = H.length
 | [], H => rfl
 | k :: ks, H => by
  unfold emptyK
  split
  ·rw [emptyK_len ks, List.length_set]
  ·exact emptyK_len ks H
theorem emptyK_get : ∀ (ks : List Nat) (H : Hp), ks.Nodup → ∀ (j : Nat) (blk : Blk), (emptyK H ks)[j]? = some (some blk) → (j ∉ ks ∧ H[j]? = some (some blk)) ∨ (j ∈ ks ∧ ∃ b, H[j]? = some (some b) ∧ blk = ⟨b.ver + 1, []⟩)
 | [], H, _, j, blk, h => .inl ⟨by simp, h⟩
 | k :: ks, H, hn, j, blk, h => by
  obtain ⟨hk, hn'⟩ := List.nodup_cons.1 hn
  unfold emptyK at h
  split at h
  ·rename_i b hb
   have hkl := (List.getElem?_eq_some_iff.1 hb).1
   rcases emptyK_get ks _ hn' j blk h with ⟨h1, h2⟩ | ⟨h1, b', h2, h3⟩
   ·by_cases e : j = k
    ·subst e
     rw [List.getElem?_set_self hkl] at h2
     cases h2
     exact .inr ⟨by simp, b, hb, rfl⟩
    ·rw [List.getElem?_set_ne (fun e' => e e'.symm)] at h2
     exact .inl ⟨by simp [e, h1], h2⟩
   ·have e : j ≠ k := fun e => hk (e ▸ h1)
    rw [List.getElem?_set_ne (fun e' => e e'.symm)] at h2
    exact .inr ⟨by simp [h1], b', h2, h3⟩
  ·rename_i hb
   rcases emptyK_get ks _ hn' j blk h with ⟨h1, h2⟩ | ⟨h1, h2⟩
   ·by_cases e : j = k
    ·subst e
     exact absurd h2 (hb blk)
    ·exact .inl ⟨by simp [e, h1], h2⟩
   ·exact .inr ⟨by simp [h1], h2⟩
theorem CeL.slLc {w : World} {M : Nat → Prop} {H : Hp} {μ : Nat → Option Nat} : ∀ {xs : List V} {us : List Value} {fp : List Nat}, CeL w M H μ xs us fp → xs.all cellV = true → SlL w M H μ xs us ∧ fp = []
 | [], us, fp, h, _ => by simp only [CeL] at h; simp only [SlL]; exact h
 | c :: cs, us, fp, h, hb => by
  simp only [List.all_cons, Bool.and_eq_true] at hb
  simp only [CeL] at h
  obtain ⟨u, us', f, f', rfl, rfl, h1, h2⟩ := h
  obtain ⟨g1, rfl⟩ := CeL.slLc h2 hb.2
  simp only [SlL]
  have key : Sl w M H μ c u ∧ f = [] := by
   rcases h1 with h1 | ⟨rfl, h1⟩
   ·have hb1 := hb.1
    cases c with
    | lit u => simp only [Ow] at h1; simp only [Sl]; exact ⟨h1.2, h1.1⟩
    | arr => simp only [Ow] at h1; simp only [Sl]; exact ⟨h1.2, h1.1⟩
    | fptr => simp only [Ow] at h1; simp only [Sl]; exact ⟨h1.2, h1.1⟩
    | fn f cs =>
     simp only [Ow] at h1
     refine ⟨?_, h1.1⟩
     have h2 := h1.2
     simp only [Fr] at h2
     simp only [Sl]
     obtain ⟨us, e, h2⟩ := h2
     exact ⟨us, e, h2.sl⟩
    | ref => simp only [Ow] at h1
    | ptr => simp only [Ow] at h1
    | _ => simp [cellV] at hb1
   ·exact ⟨h1, rfl⟩
  obtain ⟨k1, rfl⟩ := key
  exact ⟨⟨u, us', rfl, k1, g1⟩, rfl⟩
theorem OutL.len {H : Hp} : ∀ {xs ys : List V} {ks : List Nat}, OutL H xs ys ks → ys.length = xs.length
 | [], ys, ks, h => by simp only [OutL] at h; simp [h.1]
 | c :: cs, ys, ks, h => by
  simp only [OutL] at h
  obtain ⟨y, ys', k, k', rfl, rfl, _, h2⟩ := h
  simp [OutL.len h2]
theorem HStep.nest {H H' : Hp} (k ver : Nat) {A B vs vs' cells' : List V} {ks : List Nat} (hb : H[k]? = some (some ⟨ver, A ++ vs ++ B⟩)) (hs : OutL H vs vs' ks) (hnd : ks.Nodup) (hk : k ∉ ks) (hpin : ∀ i b, Γ.L i b → i ∉ ks) (hvs : vs.all cellV = true)
  (hc : A ++ vs' ++ B = cells') (he : (emptyK H ks).set k (some ⟨ver, cells'⟩) = H') : HStep Γ H H' := by
 classical
 subst hc
 intro w M μ fp G O
 have hkl := (List.getElem?_eq_some_iff.1 hb).1
 obtain ⟨hpn, hpg⟩ := O.keys_nodup ks hnd hs.live2
 generalize hpc : (ks.flatMap fun k => (μ k).toList ++ fp k) = pc at *
 obtain ⟨m1, m2, m3⟩ := O.mine k _ hb
 have hnotk : ∀ b, G b = some k → b ∉ pc := fun b hg hbp => by
  obtain ⟨k', hk', hg'⟩ := hpg b hbp
  rw [hg] at hg'
  cases hg'
  exact hk hk'
 have hlen' : H'.length = H.length := by rw [← he, List.length_set, emptyK_len]
 have hget : ∀ j blk, H'[j]? = some (some blk) → (k = j ∧ blk = ⟨ver, A ++ vs' ++ B⟩) ∨ (j ≠ k ∧ j ∉ ks ∧ H[j]? = some (some blk)) ∨ (j ≠ k ∧ j ∈ ks ∧ ∃ b, H[j]? = some (some b) ∧ blk = ⟨b.ver + 1, []⟩) := by
  intro j blk h
  rw [← he] at h
  by_cases e : j = k
  ·subst e
   rw [List.getElem?_set_self (by rw [emptyK_len]; exact hkl)] at h
   cases h
   exact .inl ⟨rfl, rfl⟩
  ·rw [List.getElem?_set_ne (fun e' => e e'.symm)] at h
   rcases emptyK_get ks H hnd j blk h with ⟨h1, h2⟩ | ⟨h1, h2⟩
   ·exact .inr (.inl ⟨e, h1, h2⟩)
   ·exact .inr (.inr ⟨e, h1, h2⟩)
 let μ' : Nat → Option Nat := fun j => if j ∈ ks then none else μ j
 have C : Carry w M H μ w M H' μ' := by
  refine ⟨Same.refl w M, fun b h => .inl h, by omega, fun j blk' hj h => ?_⟩
  rcases hget j blk' h with ⟨rfl, rfl⟩ | ⟨_, h1, h2⟩ | ⟨_, h1, b, h2, rfl⟩
  ·exact ⟨_, hb, Nat.le_refl _, fun _ => ⟨by simp only [μ', if_neg hk], fun b _ => .of_eq rfl⟩⟩
  ·exact ⟨blk', h2, Nat.le_refl _, fun _ => ⟨by simp only [μ', if_neg h1], fun b _ => .of_eq rfl⟩⟩
  ·exact ⟨b, h2, Nat.le_succ _, fun e => by simp at e⟩
 have hbl := O.blk k _ hb
 -- what the block owns
 obtain ⟨fk, hfk1, hfk2, hfk3⟩ : ∃ fk : List Nat, BlkR w M H' μ' (μ k) ⟨ver, A ++ vs' ++ B⟩ fk ∧ fk.Nodup ∧ ∀ b ∈ fk, b ∈ fp k ∨ b ∈ pc := by
  cases hm : μ k with
  | none =>
   rw [hm] at hbl
   have h0 : A ++ vs ++ B = [] := hbl
   simp only [List.append_eq_nil_iff] at h0
   have h1 := hs.len
   rw [h0.1.2] at h1
   have h2 : vs' = [] := List.length_eq_zero_iff.1 h1
   exact ⟨[], by simp [BlkR, h0.1.1, h0.2, h2], List.nodup_nil, fun b h => by cases h⟩
  | some b =>
   rw [hm] at hbl
   obtain ⟨c, e, us, hh, hce, hlie⟩ := hbl
   simp only at hce
   rw [List.append_assoc] at hce
   obtain ⟨f1, f2, hf, hA, hr⟩ := hce.split A.length
   rw [List.take_left] at hA
   rw [List.drop_left] at hr
   obtain ⟨f3, f4, hf2, hv, hB⟩ := hr.split vs.length
   rw [List.take_left] at hv
   rw [List.drop_left] at hB
   obtain ⟨hsl, rfl⟩ := hv.slLc hvs
   have how := OutL.sound O hs hsl
   rw [hpc] at how
   rw [List.nil_append] at hf2
   subst hf2
   rw [hf] at m3 m2
   obtain ⟨n1, n2, n3⟩ := List.nodup_append.1 m3
   refine ⟨f1 ++ (pc ++ f2), ⟨c, e, us, hh, ?_, hlie⟩, ?_, fun b hb => ?_⟩
   ·have hA' := hA.carry C (fun _ _ => rfl)
    have hB' := hB.carry C (fun _ _ => rfl)
    have h := hA'.append ((how.ceL (H := H') (μ := μ')).append hB')
    have e1 : us.take A.length ++ ((us.drop A.length).take vs.length ++ (us.drop A.length).drop vs.length) = us := by rw [List.take_append_drop, List.take_append_drop]
    rw [e1] at h
    simpa only [List.append_assoc] using h
   ·refine List.nodup_append.2 ⟨n1, List.nodup_append.2 ⟨hpn, n2, fun x hx y hy e => ?_⟩, fun x hx y hy e => ?_⟩
    ·subst e
     exact hnotk x (m2 x (by simp [hy])) hx
    ·subst e
     rcases List.mem_append.1 hy with hy | hy
     ·exact hnotk x (m2 x (by simp [hx])) hy
     ·exact n3 x hx x hy rfl
   ·rw [hf]
    rcases List.mem_append.1 hb with hb | hb
    ·exact .inl (by simp [hb])
    ·rcases List.mem_append.1 hb with hb | hb
     ·exact .inr hb
     ·exact .inl (by simp [hb])
 let fp' : Nat → List Nat := fun j => if j = k then fk else if j ∈ ks then [] else fp j
 let G' : Nat → Option Nat := fun b => if b ∈ pc then some k else G b
 have hG' : ∀ b, G' b ≠ none → G b ≠ none := fun b h => by
  simp only [G'] at h
  split at h
  ·rename_i hbp
   obtain ⟨k', _, hg⟩ := hpg b hbp
   rw [hg]; simp
  ·exact h
 refine ⟨μ', fp', G', ⟨fun j blk h => ?_, fun j blk h => ?_, fun b h => O.sub b (hG' b h), O.m0, O.lt, fun b h => O.new b (hG' b h), fun b h => O.apart b (hG' b h), O.kept, fun i b hb' => ?_⟩, C⟩
 ·rcases hget j blk h with ⟨rfl, rfl⟩ | ⟨h0, h1, h2⟩ | ⟨h0, h1, b, h2, rfl⟩
  ·simp only [μ', fp', if_neg hk, if_true]
   exact hfk1
  ·simp only [μ', fp', if_neg h1, if_neg h0]
   exact (O.blk j blk h2).carry C (fun b _ => rfl) (fun b _ => rfl)
  ·simp only [μ', fp', if_pos h1, if_neg h0]
   rfl
 ·rcases hget j blk h with ⟨rfl, rfl⟩ | ⟨h0, h1, h2⟩ | ⟨h0, h1, b, h2, rfl⟩
  ·simp only [μ', fp', if_neg hk, if_true]
   refine ⟨fun b e => ?_, fun b hbf => ?_, hfk2⟩
   ·obtain ⟨g1, g2⟩ := m1 b e
    refine ⟨by simp only [G', if_neg (hnotk b g1)]; exact g1, fun hbf => ?_⟩
    rcases hfk3 b hbf with h5 | h5
    ·exact g2 h5
    ·exact hnotk b g1 h5
   ·simp only [G']
    split
    ·rfl
    ·rename_i hbp
     rcases hfk3 b hbf with h5 | h5
     ·exact m2 b h5
     ·exact absurd h5 hbp
  ·obtain ⟨g1, g2, g3⟩ := O.mine j blk h2
   have hj : ∀ b, G b = some j → b ∉ pc := fun b hg hbp => by
    obtain ⟨k', hk', hg'⟩ := hpg b hbp
    rw [hg] at hg'
    cases hg'
    exact h1 hk'
   simp only [μ', fp', if_neg h1, if_neg h0]
   refine ⟨fun b e => ⟨?_, (g1 b e).2⟩, fun b e => ?_, g3⟩
   ·simp only [G', if_neg (hj b (g1 b e).1)]; exact (g1 b e).1
   ·simp only [G', if_neg (hj b (g2 b e))]; exact g2 b e
  ·simp only [μ', fp', if_pos h1, if_neg h0]
   exact ⟨fun b e => (by cases e), fun b e => (by cases e), List.nodup_nil⟩
 ·obtain ⟨p1, ⟨blk, p2⟩, p3⟩ := O.pin i b hb'
  have h0 := hpin i b hb'
  refine ⟨by simp only [μ', if_neg h0]; exact p1, ?_, p3⟩
  by_cases e : i = k
  ·subst e
   exact ⟨_, by rw [← he, List.getElem?_set_self (by rw [emptyK_len]; exact hkl)]⟩
  ·have h1 : (emptyK H ks)[i]? = some (some blk) := by
    have key : ∀ (ks : List Nat) (H : Hp), i ∉ ks → (emptyK H ks)[i]? = H[i]? := by
     intro ks
     induction ks with
     | nil => intro H _; rfl
     | cons a ks ih =>
      intro H hn
      simp only [List.mem_cons, not_or] at hn
      unfold emptyK
      split
      ·rw [ih _ hn.2, List.getElem?_set_ne (fun e => hn.1 e.symm)]
      ·exact ih _ hn.2
    rw [key ks H h0]; exact p2
   exact ⟨blk, by rw [← he, List.getElem?_set_ne (fun e' => e e'.symm)]; exact h1⟩
theorem HStep.open {H H' : Hp} (k ver k' v' : Nat) {A B cs cs0 cells' : List V} {s n : Nat} {f : Bool} (hb : H[k]? = some (some ⟨ver, A ++ [.own s n cs f] ++ B⟩)) (hk' : H[k']? = some (some ⟨v', cs0⟩)) (hne : k ≠ k') (hpin : ∀ i b, Γ.L i b → k' ≠ i)
  (hc : A ++ [.ref k' (v' + 1) 0 s n f] ++ B = cells') (he : (H.set k' (some ⟨v' + 1, cs⟩)).set k (some ⟨ver, cells'⟩) = H') : HStep Γ H H' := by
 classical
 subst hc
 intro w M μ fp G O
 have hkl := (List.getElem?_eq_some_iff.1 hb).1
 have hkl' := (List.getElem?_eq_some_iff.1 hk').1
 obtain ⟨m1, m2, m3⟩ := O.mine k _ hb
 have hbl := O.blk k _ hb
 have hlen' : H'.length = H.length := by rw [← he, List.length_set, List.length_set]
 have hget : ∀ j blk, H'[j]? = some (some blk) → (k = j ∧ blk = ⟨ver, A ++ [.ref k' (v' + 1) 0 s n f] ++ B⟩) ∨ (k' = j ∧ blk = ⟨v' + 1, cs⟩) ∨ (j ≠ k ∧ j ≠ k' ∧ H[j]? = some (some blk)) := by
  intro j blk h
  rw [← he] at h
  by_cases e : j = k
  ·subst e
   rw [List.getElem?_set_self (by rw [List.length_set]; exact hkl)] at h
   cases h
   exact .inl ⟨rfl, rfl⟩
  ·rw [List.getElem?_set_ne (fun e' => e e'.symm)] at h
   by_cases e2 : j = k'
   ·subst e2
    rw [List.getElem?_set_self hkl'] at h
    cases h
    exact .inr (.inl ⟨rfl, rfl⟩)
   ·rw [List.getElem?_set_ne (fun e' => e2 e'.symm)] at h
    exact .inr (.inr ⟨e, e2, h⟩)
 cases hm : μ k with
 | none =>
  rw [hm] at hbl
  have h0 : A ++ [.own s n cs f] ++ B = [] := hbl
  simp at h0
 | some b0 =>
  rw [hm] at hbl
  obtain ⟨c, e, us, hh, hce, hlie⟩ := hbl
  simp only at hce
  rw [List.append_assoc] at hce
  obtain ⟨f1, f2, hf, hA, hr⟩ := hce.split A.length
  rw [List.take_left] at hA
  rw [List.drop_left] at hr
  generalize hus : us.drop A.length = us2 at *
  simp only [List.singleton_append, CeL] at hr
  obtain ⟨u, us3, f3, f4, hu3, hf2, hce1, hB⟩ := hr
  have how : Ow w M (.own s n cs f) u f3 := by
   rcases hce1 with h | ⟨_, h⟩
   ·exact h
   ·simp only [Sl] at h
  subst hf2
  rw [hf] at m3 m2
  obtain ⟨n1, n2, n3⟩ := List.nodup_append.1 m3
  obtain ⟨n4, n5, n6⟩ := List.nodup_append.1 n2
  -- where the list lies
  obtain ⟨mk, fk, hmk, href, hblk⟩ : ∃ (mk : Option Nat) (fk : List Nat), ((mk.toList ++ fk).Nodup ∧ ∀ b ∈ mk.toList ++ fk, b ∈ f3) ∧ RefR w mk 0 s n f u ∧ (match mk with | some b => ∃ c e us, w.heap[b]? = some (.cells c e (0, 0)) ∧ OwL w M cs us fk ∧ Lies w b 0 us | none => cs = []) := by
   simp only [Ow] at how
   obtain ⟨A', cap, rfl, ⟨d1, d2, d3, d4, d5⟩, h⟩ := how
   rcases h with ⟨rfl, h0⟩ | h
   ·refine ⟨none, [], by simp, .inl ⟨A', ?_, by omega, d1⟩, rfl⟩
    have : n = 0 := by omega
    rw [this, h0]
   ·obtain ⟨b, c, e, us, fp', rfl, rfl, g1, g2, g3, g4⟩ := h
    exact ⟨some b, fp', ⟨n4, fun b hb => hb⟩, .inr ⟨b, cap, c, e, rfl, rfl, d1, d3, d4, d5, g1, by omega⟩, c, e, us, g1, g3, g4⟩
  let μ' : Nat → Option Nat := fun j => if j = k' then mk else μ j
  let fp' : Nat → List Nat := fun j => if j = k then f1 ++ f4 else if j = k' then fk else fp j
  let G' : Nat → Option Nat := fun b => if b ∈ f3 then some k' else G b
  have hf3 : ∀ b ∈ f3, G b = some k := fun b hb => m2 b (by simp [hb])
  have C : Carry w M H μ w M H' μ' := by
   refine ⟨Same.refl w M, fun b h => .inl h, by omega, fun j blk' hj h => ?_⟩
   rcases hget j blk' h with ⟨rfl, rfl⟩ | ⟨rfl, rfl⟩ | ⟨h0, h1, h2⟩
   ·exact ⟨_, hb, Nat.le_refl _, fun _ => ⟨by simp only [μ', if_neg hne], fun b _ => .of_eq rfl⟩⟩
   ·exact ⟨_, hk', Nat.le_succ _, fun e => by simp at e⟩
   ·exact ⟨blk', h2, Nat.le_refl _, fun _ => ⟨by simp only [μ', if_neg h1], fun b _ => .of_eq rfl⟩⟩
  have hG' : ∀ b, G' b ≠ none → G b ≠ none := fun b h => by
   simp only [G'] at h
   split at h
   ·rename_i hbp
    rw [hf3 b hbp]; simp
   ·exact h
  refine ⟨μ', fp', G', ⟨fun j blk h => ?_, fun j blk h => ?_, fun b h => O.sub b (hG' b h), O.m0, O.lt, fun b h => O.new b (hG' b h), fun b h => O.apart b (hG' b h), O.kept, fun i b hb' => ?_⟩, C⟩
  ·rcases hget j blk h with ⟨rfl, rfl⟩ | ⟨rfl, rfl⟩ | ⟨h0, h1, h2⟩
   ·simp only [μ', fp', if_neg hne, if_true, hm]
    refine ⟨c, e, us, hh, ?_, hlie⟩
    have hA' := hA.carry C (fun _ _ => rfl)
    have hB' := hB.carry C (fun _ _ => rfl)
    have hr1 : CeL w M H' μ' [.ref k' (v' + 1) 0 s n f] [u] [] := by
     simp only [CeL]
     refine ⟨u, [], [], [], rfl, rfl, .inr ⟨rfl, ?_⟩, rfl, rfl⟩
     simp only [Sl]
     refine ⟨by omega, href.isSlice, fun blk' hb' => ?_⟩
     rcases hget k' blk' hb' with ⟨e, _⟩ | ⟨_, rfl⟩ | ⟨_, e, _⟩
     ·exact absurd e hne
     ·exact ⟨Nat.le_refl _, fun _ => by simp only [μ', if_true]; exact href⟩
     ·exact absurd rfl e
    have hh := hA'.append (hr1.append hB')
    have e1 : us.take A.length ++ ([u] ++ us3) = us := by
     rw [List.singleton_append, ← hu3, ← hus, List.take_append_drop]
    rw [e1] at hh
    simpa only [List.append_assoc, List.nil_append] using hh
   ·have e2 : ¬ (k' = k) := fun e => hne e.symm
    simp only [μ', fp', if_true, if_neg e2]
    cases mk with
    | none => exact hblk
    | some b =>
     obtain ⟨c, e, us, g1, g2, g3⟩ := hblk
     exact ⟨c, e, us, g1, g2.ceL, g3⟩
   ·simp only [μ', fp', if_neg h1, if_neg h0]
    exact (O.blk j blk h2).carry C (fun b _ => rfl) (fun b _ => rfl)
  ·rcases hget j blk h with ⟨rfl, rfl⟩ | ⟨rfl, rfl⟩ | ⟨h0, h1, h2⟩
   ·simp only [μ', fp', if_neg hne, if_true]
    have hsub : ∀ b, b ∈ f1 ++ f4 → b ∉ f3 := by
     intro b hb1 hb3
     rcases List.mem_append.1 hb1 with h5 | h5
     ·exact n3 b h5 b (by simp [hb3]) rfl
     ·exact n6 b hb3 b h5 rfl
    refine ⟨fun b e => ?_, fun b hbf => ?_, ?_⟩
    ·obtain ⟨g1, g2⟩ := m1 b e
     rw [hf] at g2
     have : b ∉ f3 := fun h => g2 (by simp [h])
     refine ⟨by simp only [G', if_neg this]; exact g1, fun hbf => g2 ?_⟩
     rcases List.mem_append.1 hbf with h5 | h5 <;> simp [h5]
    ·simp only [G', if_neg (hsub b hbf)]
     refine m2 b ?_
     rcases List.mem_append.1 hbf with h5 | h5 <;> simp [h5]
    ·exact List.nodup_append.2 ⟨n1, n5, fun x hx y hy e => n3 x hx y (by simp [hy]) e⟩
   ·have e2 : ¬ (k' = k) := fun e => hne e.symm
    simp only [μ', fp', if_true, if_neg e2]
    refine ⟨fun b e => ?_, fun b hbf => ?_, ?_⟩
    ·subst e
     have n4 := hmk.1
     simp only [Option.toList_some, List.singleton_append, List.nodup_cons] at n4
     exact ⟨by simp only [G']; rw [if_pos (hmk.2 b (by simp))], n4.1⟩
    ·simp only [G']
     rw [if_pos (hmk.2 b (by simp [hbf]))]
    ·exact (List.nodup_append.1 hmk.1).2.1
   ·obtain ⟨g1, g2, g3⟩ := O.mine j blk h2
    have hj : ∀ b, G b = some j → b ∉ f3 := fun b hg hbp => by
     rw [hf3 b hbp] at hg
     cases hg
     exact h0 rfl
    simp only [μ', fp', if_neg h1, if_neg h0]
    refine ⟨fun b e => ⟨?_, (g1 b e).2⟩, fun b e => ?_, g3⟩
    ·simp only [G', if_neg (hj b (g1 b e).1)]; exact (g1 b e).1
    ·simp only [G', if_neg (hj b (g2 b e))]; exact g2 b e
  ·obtain ⟨p1, ⟨blk, p2⟩, p3⟩ := O.pin i b hb'
   have h0 := hpin i b hb'
   refine ⟨by simp only [μ', if_neg (show ¬ (i = k') from fun e => h0 e.symm)]; exact p1, ?_, p3⟩
   by_cases e : i = k
   ·subst e
    exact ⟨_, by rw [← he, List.getElem?_set_self (by rw [List.length_set]; exact hkl)]⟩
   ·exact ⟨blk, by rw [← he, List.getElem?_set_ne (fun e' => e e'.symm), List.getElem?_set_ne (fun e' => h0 e')]; exact p2⟩
end
end Go.D
