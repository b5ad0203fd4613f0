/- Own text of this claim: an abstract machine over the given program form, and what follows from it. No condition. -/
import Derived.Test.YtekijepgmmemiaaGreatEvU
set_option linter.unusedVariables false
set_option linter.unusedSimpArgs false
set_option maxHeartbeats 1000000
namespace Go.EV
noncomputable section

/-! the same state, with other numbers for blocks, and fewer of them -/
mutual
def rn (r : Nat → Nat) : AV → AV
  | .ptr b o => .ptr (r b) o
  | .sl b o l c e => .sl (r b) o l c e
  | .mp b => .mp (r b)
  | .yld b => .yld (r b)
  | .fn f a c => .fn f (rns r a) (rns r c)
  | .agg cs => .agg (rns r cs)
  | .tup vs => .tup (rns r vs)
  | .ep b j k e => .ep (r b) j k e
  | .es b j n c e => .es (r b) j n c e
  | v => v
def rns (r : Nat → Nat) : List AV → List AV
  | [] => []
  | v :: vs => rn r v :: rns r vs
end
mutual
/-- of each block that a value names p holds -/
def idp (p : Nat → Bool) : AV → Bool
  | .ptr b _ => p b
  | .sl b _ _ _ _ => p b
  | .mp b => p b
  | .yld b => p b
  | .fn _ f c => idps p f && idps p c
  | .agg cs => idps p cs
  | .tup vs => idps p vs
  | .ep b _ _ _ => p b
  | .es b _ _ _ _ => p b
  | _ => true
def idps (p : Nat → Bool) : List AV → Bool
  | [] => true
  | v :: vs => idp p v && idps p vs
end
mutual
def idsV : AV → List Nat
  | .ptr b _ => [b]
  | .sl b _ _ _ _ => [b]
  | .mp b => [b]
  | .yld b => [b]
  | .fn _ f c => idsVs f ++ idsVs c
  | .agg cs => idsVs cs
  | .tup vs => idsVs vs
  | .ep b _ _ _ => [b]
  | .es b _ _ _ _ => [b]
  | _ => []
def idsVs : List AV → List Nat
  | [] => []
  | v :: vs => idsV v ++ idsVs vs
end
mutual
theorem VR.rn {r : Nat → Nat} {p : Nat → Bool} {ρ ρ' : Rho} (h : ∀ b, p b = true → ρ'.m (r b) = ρ.m b) (hf : ∀ k arr, ρ.fz k = some arr → ρ'.fz k = some arr) : ∀ {v : AV} {c : Value}, idp p v = true → VR ρ v c → VR ρ' (EV.rn r v) c
  | .int _ _, _, _, e => by simpa only [VR, EV.rn] using e
  | .bool _, _, _, e => by simpa only [VR, EV.rn] using e
  | .str _, _, _, e => by simpa only [VR, EV.rn] using e
  | .ptr _ _, _, i, e => by
    simp only [VR, EV.rn, idp] at e i ⊢
    obtain ⟨cb, h1, h2⟩ := e
    exact ⟨cb, by rw [h _ i]; exact h1, h2⟩
  | .nilptr, _, _, e => by simpa only [VR, EV.rn] using e
  | .sl _ _ _ _ _, _, i, e => by
    simp only [VR, EV.rn, idp] at e i ⊢
    obtain ⟨cb, k, h1, h2⟩ := e
    exact ⟨cb, k, by rw [h _ i]; exact h1, h2⟩
  | .nilsl, _, _, e => by simpa only [VR, EV.rn] using e
  | .slz _, _, _, e => by simpa only [VR, EV.rn] using e
  | .mp _, _, i, e => by
    simp only [VR, EV.rn, idp] at e i ⊢
    obtain ⟨cb, h1, h2⟩ := e
    exact ⟨cb, by rw [h _ i]; exact h1, h2⟩
  | .nilmap, _, _, e => by simpa only [VR, EV.rn] using e
  | .fn _ a cp, _, i, e => by
    simp only [VR, EV.rn, idp, Bool.and_eq_true] at e i ⊢
    obtain ⟨as, cs, h1, h2, h3⟩ := e
    exact ⟨as, cs, h1, VRs.rn h hf i.1 h2, VRs.rn h hf i.2 h3⟩
  | .nilfn, _, _, e => by simpa only [VR, EV.rn] using e
  | .yld _, _, i, e => by
    simp only [VR, EV.rn, idp] at e i ⊢
    obtain ⟨cb, h1, h2⟩ := e
    exact ⟨cb, by rw [h _ i]; exact h1, h2⟩
  | .agg _, _, i, e => by
    simp only [VR, EV.rn, idp] at e i ⊢
    obtain ⟨as, h1, h2⟩ := e
    exact ⟨as, h1, VRs.rn h hf i h2⟩
  | .tup _, _, i, e => by
    simp only [VR, EV.rn, idp] at e i ⊢
    obtain ⟨as, h1, h2⟩ := e
    exact ⟨as, h1, VRs.rn h hf i h2⟩
  | .ls _ _ _ _, _, _, q => by
    simp only [VR, EV.rn] at q ⊢
    rcases q with q | ⟨h0, b, o, k, arr, h1, h2, h3, h4, h5, h6⟩
    · exact .inl q
    · exact .inr ⟨h0, b, o, k, arr, h1, h2, h3, hf _ _ h4, h5, fun j hj => ⟨VRs.ext (ρ := ρ.cold) (ρ' := ρ'.cold) ⟨fun _ _ q => (by cases q), hf⟩ (h6 j hj).1, (h6 j hj).2⟩⟩
  | .lp _ _, _, _, q => by
    simp only [VR, EV.rn] at q ⊢
    obtain ⟨b, o, arr, h1, h2, h3, h4⟩ := q
    exact ⟨b, o, arr, h1, hf _ _ h2, h3, VRs.ext (ρ := ρ.cold) (ρ' := ρ'.cold) ⟨fun _ _ q => (by cases q), hf⟩ h4⟩
  | .ep _ _ _ _, _, i, e => by
    simp only [VR, EV.rn, idp] at e i ⊢
    obtain ⟨cb, h1, h2⟩ := e
    exact ⟨cb, by rw [h _ i]; exact h1, h2⟩
  | .es _ _ _ _ _, _, i, e => by
    simp only [VR, EV.rn, idp] at e i ⊢
    rcases e with e | ⟨cb, k, h1, h2⟩
    · exact .inl e
    · exact .inr ⟨cb, k, by rw [h _ i]; exact h1, h2⟩
theorem VRs.rn {r : Nat → Nat} {p : Nat → Bool} {ρ ρ' : Rho} (h : ∀ b, p b = true → ρ'.m (r b) = ρ.m b) (hf : ∀ k arr, ρ.fz k = some arr → ρ'.fz k = some arr) : ∀ {vs : List AV} {l : List Value}, idps p vs = true → VRs ρ vs l → VRs ρ' (rns r vs) l
  | [], _, _, e => by simpa only [VRs, rns] using e
  | v :: vs, _, i, e => by
    simp only [VRs, rns, idps, Bool.and_eq_true] at e i ⊢
    obtain ⟨c, cs, h1, h2, h3⟩ := e
    exact ⟨c, cs, h1, VR.rn h hf i.1 h2, VRs.rn h hf i.2 h3⟩
end

/-! trees -/
def Tr.mapT {α β : Type} (f : α → β) (t : Tr α) : Tr β :=
  Tr.rec (motive := fun _ => Tr β) .nil (fun v _ _ l r => .node (Option.rec (motive := fun _ => Option β) none (fun v => some (f v)) v) l r) (fun g => .fn fun i => (g i).map f) t
theorem Tr.mapT_get {α β : Type} (f : α → β) : ∀ (t : Tr α) (i : Nat), (Tr.mapT f t).get i = (t.get i).map f
  | .nil, i => rfl
  | .fn g, i => rfl
  | .node v l r, 0 => by cases v <;> rfl
  | .node v l r, i + 1 => by
    show (Tr.node _ (Tr.mapT f l) (Tr.mapT f r)).get (i + 1) = _
    rw [Tr.get_succ, Tr.get_succ]
    cases Nat.beq (i % 2) 0
    · exact Tr.mapT_get f r _
    · exact Tr.mapT_get f l _
/-- of all that a tree has p holds (of a function: nothing is known) -/
def Tr.allT {α : Type} (p : α → Bool) (t : Tr α) : Bool :=
  Tr.rec (motive := fun _ => Bool) true (fun v _ _ l r => Option.rec (motive := fun _ => Bool) true p v && l && r) (fun _ => false) t
theorem Tr.allT_get {α : Type} {p : α → Bool} : ∀ {t : Tr α}, Tr.allT p t = true → ∀ {i : Nat} {v : α}, t.get i = some v → p v = true
  | .nil, _, i, v, h => by cases h
  | .fn g, e, _, _, _ => by cases e
  | .node u l r, e, i, v, h => by
    have e : (Option.rec (motive := fun _ => Bool) true p u && Tr.allT p l && Tr.allT p r) = true := e
    simp only [Bool.and_eq_true] at e
    cases i with
    | zero =>
      have h : u = some v := h
      subst h; exact e.1.1
    | succ i =>
      rw [Tr.get_succ] at h
      cases hb : Nat.beq (i % 2) 0 with
      | true => rw [hb] at h; exact Tr.allT_get e.1.2 h
      | false => rw [hb] at h; exact Tr.allT_get e.2 h
def Tr.idsT (t : Tr AV) : List Nat :=
  Tr.rec (motive := fun _ => List Nat) [] (fun v _ _ l r => Option.rec (motive := fun _ => List Nat) [] idsV v ++ l ++ r) (fun _ => []) t

/-! names -/
def posOf : List Nat → Nat → Nat → Nat
  | [], b, i => i + b
  | x :: l, b, i => match Nat.beq x b with
    | true => i
    | false => posOf l b (Nat.succ i)
theorem posOf_mem : ∀ {l : List Nat} {b i : Nat}, hasN l b = true → ∃ k, posOf l b i = i + k ∧ l[k]? = some b
  | [], b, i, h => by cases h
  | x :: l, b, i, h => by
    simp only [hasN, Bool.or_eq_true] at h
    unfold posOf
    cases hb : Nat.beq x b with
    | true => rw [Tr.beq_true] at hb; subst hb; exact ⟨0, rfl, rfl⟩
    | false =>
      rw [hb] at h
      obtain ⟨k, h1, h2⟩ := posOf_mem (i := i + 1) (h.resolve_left (by simp))
      exact ⟨k + 1, by simp only; rw [h1]; omega, by simpa using h2⟩
def nm (l : List Nat) (b : Nat) : Nat := match Nat.blt b 8 with
  | true => b
  | false => posOf l b 8
def inL (l : List Nat) (b : Nat) : Bool := Nat.blt b 8 || hasN l b
def nodupN : List Nat → Bool
  | [] => true
  | x :: l => !hasN l x && nodupN l
theorem nodup_at : ∀ {l : List Nat}, nodupN l = true → ∀ {i j b : Nat}, l[i]? = some b → l[j]? = some b → i = j
  | [], _, i, j, b, h, _ => by simp at h
  | x :: l, hn, i, j, b, h, g => by
    simp only [nodupN, Bool.and_eq_true, Bool.not_eq_true'] at hn
    have key : ∀ {k : Nat}, l[k]? = some x → False := by
      intro k hk
      have : hasN l x = true := hasN_iff.mpr (List.mem_of_getElem? hk)
      rw [this] at hn; exact absurd hn.1 (by simp)
    cases i with
    | zero =>
      simp at h; subst h
      cases j with
      | zero => rfl
      | succ j => simp at g; exact (key g).elim
    | succ i =>
      simp at h
      cases j with
      | zero => simp at g; subst g; exact (key h).elim
      | succ j => simp at g; rw [nodup_at hn.2 h g]

def rnB (r : Nat → Nat) : ABlk → ABlk
  | .row n z t => .row n (rns r z) (Tr.mapT (rn r) t)
  | .map es k => .map (es.map fun e => (rn r e.1, rn r e.2.1, e.2.2)) k
  | .loop x => .loop ⟨x.state, x.pending, x.fn, x.n, Tr.mapT (rn r) x.tmps, x.params, x.assign, x.body⟩
  | o => o
def idB (p : Nat → Bool) : ABlk → Bool
  | .row _ z t => idps p z && Tr.allT (idp p) t
  | .map es _ => es.all fun e => idp p e.1 && idp p e.2.1
  | .loop x => Tr.allT (idp p) x.tmps
  | .dfr _ => true
  | .els _ _ _ => true
  | .imap _ _ _ _ => true
  | .ro _ _ => false
/-- elements name no block -/
def FreeE (e n : Nat) (f : Nat → List AV) : Prop := 0 < e ∧ ∀ i, i < n → ∀ (ρ ρ' : Rho) (cs : List Value), (∀ k arr, ρ.fz k = some arr → ρ'.fz k = some arr) → VRs ρ (f i) cs → VRs ρ' (f i) cs
def FreeB : ABlk → Prop
  | .els e n f => FreeE e n f
  | _ => True

def rnI (r : Nat → Nat) : AItem → AItem
  | .inRF b => .inRF (r b)
  | .endRF b => .endRF (r b)
  | x => x
def idI (p : Nat → Bool) : AItem → Bool
  | .inRF b => p b
  | .endRF b => p b
  | .dreg _ _ _ _ _ _ => false
  | _ => true
def rnF (r : Nat → Nat) (a : AFr) : AFr := ⟨a.fn, ⟨Option.rec (motive := fun _ => Option Nat) none (fun b => some (r b)) a.ctl.rnd, a.ctl.marks.map r⟩, a.n, Tr.mapT (rn r) a.tmps, a.todo.map (rnI r)⟩
def idF (p : Nat → Bool) (a : AFr) : Bool := Option.rec (motive := fun _ => Bool) true p a.ctl.rnd && a.ctl.marks.all p && Tr.allT (idp p) a.tmps && a.todo.all (idI p)

def rnH (h : AH) (l : List Nat) : Tr ABlk := go l 8
where go : List Nat → Nat → Tr ABlk
  | [], _ => .nil
  | b :: r, i => match h.bs.get b with
    | some o => Tr.set (rnB (nm l) o) (go r (Nat.succ i)) i
    | none => go r (Nat.succ i)
theorem go_get {h : AH} {l0 : List Nat} : ∀ {l : List Nat} {i k : Nat} {o : ABlk}, (rnH.go h l0 l i).get k = some o → ∃ j b o0, k = i + j ∧ l[j]? = some b ∧ h.bs.get b = some o0 ∧ o = rnB (nm l0) o0
  | [], i, k, o, e => by cases e
  | b :: r, i, k, o, e => by
    unfold rnH.go at e
    split at e
    · rename_i o0 ho
      rw [Tr.get_set] at e
      split at e
      · subst k
        cases e
        exact ⟨0, b, o0, rfl, rfl, ho, rfl⟩
      · obtain ⟨j, b', o0, h1, h2, h3⟩ := go_get e
        exact ⟨j + 1, b', o0, by omega, by simpa using h2, h3⟩
    · obtain ⟨j, b', o0, h1, h2, h3⟩ := go_get e
      exact ⟨j + 1, b', o0, by omega, by simpa using h2, h3⟩

def rnM (l : List Nat) (m : AM) : AM := ⟨rnF (nm l) m.top, m.below.map (rnF (nm l)), ⟨rnH m.heap l, 8 + lenF l 0⟩, ⟨noHint, noSure⟩, []⟩
def blksOk (h : AH) (l : List Nat) : List Nat → Bool
  | [] => true
  | b :: r => Nat.ble 8 b && Nat.blt b h.next && (match h.bs.get b with | some o => idB (inL l) o | none => true) && blksOk h l r
def blksFree (h : AH) : List Nat → Prop
  | [] => True
  | b :: r => match h.bs.get b with
    | some (.els e n f) => FreeE e n f ∧ blksFree h r
    | _ => blksFree h r
def noLow (h : AH) : Nat → Bool
  | 0 => true
  | n + 1 => (match h.bs.get n with | some _ => false | none => true) && noLow h n
def gcOk (l : List Nat) (m : AM) : Bool := nodupN l && noLow m.heap 8 && blksOk m.heap l l && idF (inL l) m.top && m.below.all (idF (inL l))

theorem noLow_at {h : AH} : ∀ {n : Nat}, noLow h n = true → ∀ {b : Nat}, b < n → h.bs.get b = none
  | 0, _, b, hb => by omega
  | n + 1, e, b, hb => by
    simp only [noLow, Bool.and_eq_true] at e
    by_cases hbn : b = n
    · subst hbn
      have := e.1
      split at this
      · cases this
      · assumption
    · exact noLow_at e.2 (by omega)
theorem blksOk_at {h : AH} {l0 : List Nat} : ∀ {l : List Nat}, blksOk h l0 l = true → ∀ {b : Nat}, b ∈ l → 8 ≤ b ∧ b < h.next ∧ ∀ o, h.bs.get b = some o → idB (inL l0) o = true
  | [], _, b, hb => by cases hb
  | x :: l, e, b, hb => by
    simp only [blksOk, Bool.and_eq_true, Nat.ble_eq] at e
    rcases List.mem_cons.mp hb with rfl | hb
    · refine ⟨e.1.1.1, blt_lt' e.1.1.2, fun o ho => ?_⟩
      have := e.1.2
      rw [ho] at this; exact this
    · exact blksOk_at e.2 hb
where blt_lt' {a b : Nat} (h : Nat.blt a b = true) : a < b := by simp [Nat.blt] at h; omega
theorem blksFree_at {h : AH} : ∀ {l : List Nat}, blksFree h l → ∀ {b : Nat}, b ∈ l → ∀ o, h.bs.get b = some o → FreeB o
  | [], _, b, hb, _, _ => by cases hb
  | x :: l, e, b, hb, o, ho => by
    unfold blksFree at e
    rcases List.mem_cons.mp hb with rfl | hb
    · rw [ho] at e
      cases o with
      | els e' n f => exact e.1
      | _ => trivial
    · split at e
      · exact blksFree_at e.2 hb o ho
      · exact blksFree_at e hb o ho

theorem map_rn {ρ ρ' : Rho} {r : Nat → Nat} {p : Nat → Bool} (hp : ∀ {v : AV} {c : Value}, idp p v = true → VR ρ v c → VR ρ' (rn r v) c) : ∀ {es : List (AV × AV × Nat)} {L : List MapEntry}, (∀ e ∈ es, idp p e.1 = true ∧ idp p e.2.1 = true) → mapR ρ es L → mapR ρ' (es.map fun e => (rn r e.1, rn r e.2.1, e.2.2)) L
  | [], L, _, h => h
  | (a, b, c) :: es, L, hid, ⟨x, q, r1, r2, r3, r4, r5⟩ =>
    have := hid (a, b, c) (by simp)
    ⟨x, q, r1, hp this.1 r2, hp this.2 r3, r4, map_rn hp (fun e he => hid e (by simp [he])) r5⟩
/-- the first blocks of a list are those that keep their numbers -/
def pinN : Nat → List Nat → Nat → Bool
  | 0, _, _ => true
  | _ + 1, [], _ => false
  | p + 1, x :: l, i => Nat.beq x i && pinN p l (Nat.succ i)
theorem pin_at : ∀ {p : Nat} {l : List Nat} {i : Nat}, pinN p l i = true → ∀ {k : Nat}, k < p → l[k]? = some (i + k)
  | 0, _, _, _, k, h => by omega
  | p + 1, [], _, e, _, _ => by cases e
  | p + 1, x :: l, i, e, k, h => by
    simp only [pinN, Bool.and_eq_true, Tr.beq_true] at e
    cases k with
    | zero => simp [e.1]
    | succ k =>
      have := pin_at e.2 (k := k) (by omega)
      simp only [List.getElem?_cons_succ, this]
      congr 1; omega
theorem pin_len : ∀ {p : Nat} {l : List Nat} {i : Nat}, pinN p l i = true → p ≤ l.length
  | 0, _, _, _ => by omega
  | p + 1, [], _, e => by cases e
  | p + 1, x :: l, i, e => by
    simp only [pinN, Bool.and_eq_true] at e
    have := pin_len e.2
    simp; omega
/-- names of fewer blocks -/
def gcR (l : List Nat) (ρ : Rho) : Rho := ⟨fun b => if b < 8 then ρ.m b else match l[b - 8]? with | some x => ρ.m x | none => none, ρ.fz⟩
theorem gcR_nm {l : List Nat} {ρ : Rho} {b : Nat} (hb : inL l b = true) : (gcR l ρ).m (nm l b) = ρ.m b := by
  unfold nm
  cases h8 : Nat.blt b 8 with
  | true =>
    have : b < 8 := by simp [Nat.blt] at h8; omega
    show (if b < 8 then ρ.m b else _) = _
    rw [if_pos this]
  | false =>
    unfold inL at hb
    rw [h8] at hb
    obtain ⟨k, h1, h2⟩ := posOf_mem (i := 8) (l := l) (b := b) (by simpa using hb)
    simp only
    rw [h1]
    show (if 8 + k < 8 then _ else match l[8 + k - 8]? with | some x => ρ.m x | none => none) = _
    rw [if_neg (by omega), show 8 + k - 8 = k by omega, h2]
theorem gcR_up {l : List Nat} {ρ : Rho} {b : Nat} {cb : Cb} (hb : 8 ≤ b) (h : (gcR l ρ).m b = some cb) : ∃ x, l[b - 8]? = some x ∧ ρ.m x = some cb := by
  have h : (if b < 8 then ρ.m b else match l[b - 8]? with | some x => ρ.m x | none => none) = some cb := h
  rw [if_neg (by omega)] at h
  split at h
  · rename_i x hx; exact ⟨x, hx, h⟩
  · cases h
theorem gcR_low {l : List Nat} {ρ : Rho} {b : Nat} (hb : b < 8) : (gcR l ρ).m b = ρ.m b := if_pos hb
theorem blkR_rn {ρ ρ' : Rho} {r : Nat → Nat} {p : Nat → Bool} (hr : ∀ b, p b = true → ρ'.m (r b) = ρ.m b) (hfz : ∀ k arr, ρ.fz k = some arr → ρ'.fz k = some arr) {o : Option Obj} {cb : Cb} {o0 : ABlk} (hid : idB p o0 = true) (hfree : FreeB o0) (hb : blkR ρ o cb o0) : blkR ρ' o cb (rnB r o0) := by
  have hp : ∀ {v : AV} {c : Value}, idp p v = true → VR ρ v c → VR ρ' (rn r v) c := fun i e => VR.rn hr hfz i e
  revert hid hfree hb
  cases o0 with
  | row n z t =>
    intro hid _ hb
    simp only [idB, Bool.and_eq_true] at hid
    obtain ⟨arr, elem, k1, k2, k3, k4⟩ := hb
    refine ⟨arr, elem, k1, k2, k3, fun i v hi => ?_⟩
    have hi2 : ∃ u, rowGet n z t i = some u ∧ v = rn r u ∧ idp p u = true := by
      unfold rowGet at hi ⊢
      split at hi
      · rename_i hlt
        rw [Tr.mapT_get] at hi
        cases hu : t.get i with
        | some u =>
          rw [hu] at hi; cases hi
          exact ⟨u, rfl, rfl, Tr.allT_get hid.2 hu⟩
        | none =>
          rw [hu] at hi
          simp only [Option.map_none] at hi ⊢
          have hz : ∀ (z : List AV) (k : Nat) (v : AV), idps p z = true → (rns r z)[k]? = some v → ∃ u, z[k]? = some u ∧ v = rn r u ∧ idp p u = true := by
            intro z
            induction z with
            | nil => intro k v _ h; simp [rns] at h
            | cons a z ih =>
              intro k v hi h
              simp only [idps, Bool.and_eq_true] at hi
              cases k with
              | zero => simp only [rns, List.getElem?_cons_zero, Option.some.injEq] at h; subst h; exact ⟨a, rfl, rfl, hi.1⟩
              | succ k => simp only [rns, List.getElem?_cons_succ] at h; simpa using ih k v hi.2 h
          have hlen : ∀ z : List AV, (rns r z).length = z.length := by
            intro z
            induction z with
            | nil => rfl
            | cons a z ih => simp only [rns, List.length_cons, ih]
          rw [hlen] at hi
          exact hz z _ v hid.1 hi
      · cases hi
    obtain ⟨u, h1, rfl, h3⟩ := hi2
    obtain ⟨c, h4, h5⟩ := k4 i u h1
    exact ⟨c, h4, hp h3 h5⟩
  | ro n f => intro hid; cases hid
  | map es k =>
    intro hid _ hb
    obtain ⟨ces, k1, k2⟩ := hb
    refine ⟨ces, k1, ?_⟩
    simp only [idB, List.all_eq_true, Bool.and_eq_true] at hid
    exact map_rn (fun {v c} => hp) hid k2
  | loop x =>
    intro hid _ hb
    obtain ⟨lr, k1, k2⟩ := hb
    refine ⟨lr, k1, k2.state, k2.pending, k2.fn, k2.size, fun t v hv => ?_, k2.params, k2.assign, k2.body⟩
    have hv : (Tr.mapT (rn r) x.tmps).get t = some v := hv
    rw [Tr.mapT_get] at hv
    cases hu : x.tmps.get t with
    | none => rw [hu] at hv; cases hv
    | some u =>
      rw [hu] at hv; cases hv
      obtain ⟨c, h1, h2⟩ := k2.tmps t u hu
      exact ⟨c, h1, hp (Tr.allT_get hid hu) h2⟩
  | dfr t => exact fun _ _ hb => hb
  | imap kk u hs x =>
    intro _ _ hb
    obtain ⟨ces, k, h1, h2, h3⟩ := hb
    exact ⟨ces, k, h1, fun e he => by
      obtain ⟨n, g1, g2, g3⟩ := h2 e he
      exact ⟨n, g1, g2, VR.ext (ρ := ρ.cold) (ρ' := ρ'.cold) ⟨fun _ _ q => (by cases q), hfz⟩ g3⟩, h3⟩
  | els e n f =>
    intro _ hfree hb
    obtain ⟨arr, elem, k1, k2, k3, k4, k5⟩ := hb
    refine ⟨arr, elem, k1, k2, k3, k4, fun i hi => ⟨?_, (k5 i hi).2⟩⟩
    have hin : i < n := by
      have h1 : (i + 1) * e ≤ n * e := by omega
      have := Nat.le_of_mul_le_mul_right h1 hfree.1
      omega
    exact hfree.2 i hin ρ ρ' _ hfz (k5 i hi).1
theorem hrel_gc {l : List Nat} {h : AH} {ρ : Rho} {w : World} (H : HRel ρ h w) (q1 : nodupN l = true) (q3 : blksOk h l l = true) (hf : blksFree h l) : HRel (gcR l ρ) ⟨rnH h l, 8 + lenF l 0⟩ w := by
  have hlen : lenF l 0 = l.length := lenF_eq l
  have hget : ∀ {b o}, (rnH h l).get b = some o → 8 ≤ b ∧ ∃ x o0, l[b - 8]? = some x ∧ h.bs.get x = some o0 ∧ o = rnB (nm l) o0 := by
    intro b o hb
    obtain ⟨j, x, o0, h1, h2, h3, h4⟩ := go_get hb
    subst h1
    exact ⟨by omega, x, o0, by rw [show 8 + j - 8 = j by omega]; exact h2, h3, h4⟩
  refine ⟨?_, ?_, ?_, ?_, ?_, ?_, ?_, H.frz, ?_⟩
  · intro b o hb cb hcb
    obtain ⟨h8, x, o0, e1, e2, rfl⟩ := hget hb
    obtain ⟨x', e3, e4⟩ := gcR_up h8 hcb
    rw [e1] at e3; cases e3
    have hx := List.mem_of_getElem? e1
    exact blkR_rn (p := inL l) (fun b hb => gcR_nm hb) (fun _ _ h => h) ((blksOk_at q3 hx).2.2 o0 e2) (blksFree_at hf hx o0 e2) (H.blk x o0 e2 cb e4)
  · intro b b' cb cb' g8 gx gy hx hy hh
    obtain ⟨o, ho⟩ : ∃ o, (rnH h l).get b = some o := by
      cases hq : (rnH h l).get b with
      | none => exact absurd hq gx
      | some o => exact ⟨o, rfl⟩
    obtain ⟨o', ho'⟩ : ∃ o, (rnH h l).get b' = some o := by
      cases hq : (rnH h l).get b' with
      | none => exact absurd hq gy
      | some o => exact ⟨o, rfl⟩
    obtain ⟨b8, x, o0, e1, e2, _⟩ := hget ho
    obtain ⟨_, x', o0', e1', e2', _⟩ := hget ho'
    obtain ⟨y, f1, f2⟩ := gcR_up b8 hx
    obtain ⟨y', f1', f2'⟩ := gcR_up g8 hy
    rw [e1] at f1; cases f1
    rw [e1'] at f1'; cases f1'
    have hx8 := (blksOk_at q3 (List.mem_of_getElem? e1')).1
    have := H.inj x x' cb cb' hx8 (by rw [e2]; simp) (by rw [e2']; simp) f2 f2' hh
    subst this
    have := nodup_at q1 e1 e1'
    omega
  · intro b hb
    have hb : 8 + lenF l 0 ≤ b := hb
    show (if b < 8 then ρ.m b else match l[b - 8]? with | some x => ρ.m x | none => none) = none
    rw [if_neg (by omega), List.getElem?_eq_none (by omega)]
  · intro b hb
    have hb : 8 + lenF l 0 ≤ b := hb
    show (rnH h l).get b = none
    cases hq : (rnH h l).get b with
    | none => rfl
    | some o =>
      obtain ⟨_, x, o0, e1, _⟩ := hget hq
      have := (List.getElem?_eq_some_iff.mp e1).1
      omega
  · intro b cb hcb
    rcases Nat.lt_or_ge b 8 with h | h
    · rw [gcR_low h] at hcb; exact H.bound b cb hcb
    · obtain ⟨x, _, h2⟩ := gcR_up h hcb
      exact H.bound x cb h2
  · intro b o hb _
    exact (hget hb).1
  · show 8 ≤ 8 + lenF l 0
    omega
  · intro b o cb hb g8 hcb
    obtain ⟨h8, x, o0, e1, e2, _⟩ := hget hb
    obtain ⟨y, f1, f2⟩ := gcR_up g8 hcb
    rw [e1] at f1; cases f1
    exact H.sep x o0 cb e2 (blksOk_at q3 (List.mem_of_getElem? e1)).1 f2
theorem lead_gc {P : Program} {p : Nat} {l : List Nat} {m : AM} (hpn : pinN p l 8 = true) (hg : gcOk l m = true) (hf : blksFree m.heap l) : Lead P p m (rnM l m) := by
  simp only [gcOk, Bool.and_eq_true, List.all_eq_true] at hg
  obtain ⟨⟨⟨⟨q1, q2⟩, q3⟩, q4⟩, q5⟩ := hg
  intro N own w0 cs0 f0 ρ0 n0 fr cs w l1 l2 M
  obtain ⟨ρ, cfs, B, hB, H, F, SS, hcs, O, X⟩ := M.ex
  have hlen : lenF l 0 = l.length := lenF_eq l
  let ρ' : Rho := gcR l ρ
  have hfz : ∀ k arr, ρ.fz k = some arr → ρ'.fz k = some arr := fun _ _ h => h
  have hr : ∀ b, inL l b = true → ρ'.m (nm l b) = ρ.m b := by
    intro b hb
    unfold nm
    cases h8 : Nat.blt b 8 with
    | true =>
      have : b < 8 := by simp [Nat.blt] at h8; omega
      show (if b < 8 then ρ.m b else _) = _
      rw [if_pos this]
    | false =>
      unfold inL at hb
      rw [h8] at hb
      obtain ⟨k, h1, h2⟩ := posOf_mem (i := 8) (l := l) (b := b) (by simpa using hb)
      simp only
      rw [h1]
      show (if 8 + k < 8 then _ else match l[8 + k - 8]? with | some x => ρ.m x | none => none) = _
      rw [if_neg (by omega), show 8 + k - 8 = k by omega, h2]
  have hup : ∀ {b cb}, 8 ≤ b → ρ'.m b = some cb → ∃ x, l[b - 8]? = some x ∧ ρ.m x = some cb := by
    intro b cb hb h
    have h : (if b < 8 then ρ.m b else match l[b - 8]? with | some x => ρ.m x | none => none) = some cb := h
    rw [if_neg (by omega)] at h
    split at h
    · rename_i x hx; exact ⟨x, hx, h⟩
    · cases h
  have hlow : ∀ {b}, b < 8 → ρ'.m b = ρ.m b := fun {b} hb => if_pos hb
  have hp : ∀ {v : AV} {c : Value}, idp (inL l) v = true → VR ρ v c → VR ρ' (rn (nm l) v) c := fun i e => VR.rn hr hfz i e
  have hps : ∀ {v : List AV} {c : List Value}, idps (inL l) v = true → VRs ρ v c → VRs ρ' (rns (nm l) v) c := fun i e => VRs.rn hr hfz i e
  have frame : ∀ {a : AFr} {f : Frame} {lo hi : Nat}, idF (inL l) a = true → FR P ρ lo hi a f → FRp ρ' (rnF (nm l) a) f := by
    intro a f lo hi ha hF
    simp only [idF, Bool.and_eq_true, List.all_eq_true] at ha
    obtain ⟨⟨⟨a1, a2⟩, a3⟩, a4⟩ := ha
    have hF : FRp ρ a f := plain_frame hF (fun ops all done floats rest wait k e => by
      have := a4 (.dreg ops all done floats rest wait) (by rw [e]; simp)
      cases this)
    refine ⟨hF.fn, hF.mode, hF.kind, ?_, ?_, hF.size, fun t v hv => ?_, ?_⟩
    · have := hF.defers
      revert a2 this
      show _ → MarksR ρ a.ctl.marks f.defers → MarksR ρ' (a.ctl.marks.map (nm l)) f.defers
      generalize a.ctl.marks = ms
      generalize f.defers = ds
      intro a2 h
      induction ms generalizing ds with
      | nil => exact h
      | cons b bs ih =>
        obtain ⟨cb, r, h1, h2, h3⟩ := h
        exact ⟨cb, r, by rw [hr b (a2 b (by simp))]; exact h1, h2, ih r (fun x hx => a2 x (by simp [hx])) h3⟩
    · have := hF.round
      show RoundR ρ' (Option.rec (motive := fun _ => Option Nat) none (fun b => some (nm l b)) a.ctl.rnd) f.roundOf
      cases hrd : a.ctl.rnd with
      | none => rw [hrd] at this; exact this
      | some b =>
        rw [hrd] at this a1
        obtain ⟨cb, h1, h2⟩ := this
        exact ⟨cb, by rw [hr b a1]; exact h1, h2⟩
    · have hv : (Tr.mapT (rn (nm l)) a.tmps).get t = some v := hv
      rw [Tr.mapT_get] at hv
      cases hu : a.tmps.get t with
      | none => rw [hu] at hv; cases hv
      | some u =>
        rw [hu] at hv; cases hv
        obtain ⟨c, h1, h2⟩ := hF.tmps t u hu
        exact ⟨c, h1, hp (Tr.allT_get a3 hu) h2⟩
    · have := hF.todo
      revert a4 this
      show _ → All2 (IR ρ) a.todo f.todo → All2 (IR ρ') (a.todo.map (rnI (nm l))) f.todo
      generalize a.todo = k
      generalize f.todo = kc
      intro a4 h
      induction h with
      | nil => exact .nil
      | @cons x y _ _ h1 _ ih =>
        refine .cons ?_ (ih (fun x hx => a4 x (by simp [hx])))
        have hx := a4 x (by simp)
        revert h1
        cases x <;> cases y <;> simp only [IR, rnI] <;> first
          | exact fun h => h
          | (rintro ⟨cb, h1, h2⟩; exact ⟨cb, by rw [hr _ hx]; exact h1, h2⟩)
  have H' : HRel ρ' (rnM l m).heap w := hrel_gc H q1 q3 hf
  have X' : Ext2 n0 ρ0 ρ' := by
    have hpin : ∀ b, b < 8 + p → ρ'.m b = ρ.m b := by
      intro b hb
      show (if b < 8 then ρ.m b else match l[b - 8]? with | some x => ρ.m x | none => none) = _
      by_cases h8 : b < 8
      · rw [if_pos h8]
      · rw [if_neg h8, pin_at hpn (k := b - 8) (by omega), show 8 + (b - 8) = b by omega]
    refine ⟨⟨fun b cb hcb => ?_, X.1.fz⟩, fun b hb => ?_⟩
    · have hb : b < 8 + p := by
        rcases Nat.lt_or_ge b (8 + p) with h1 | h1
        · exact h1
        · rw [l2 b h1] at hcb; cases hcb
      rw [hpin b hb]
      exact X.1.m b cb hcb
    · rw [hpin b (by omega)]
      exact X.2 b hb
  have O' : Owned N own ρ' := by
    refine ⟨fun b cb hb8 hcb => ?_, O.f⟩
    obtain ⟨x, e1, e2⟩ := hup hb8 hcb
    exact O x cb (blksOk_at q3 (List.mem_of_getElem? e1)).1 e2
  have below : ∀ {as : List AFr} {l' : List Frame} {B : Nat}, (∀ a ∈ as, idF (inL l) a = true) → SR P ρ n0 B as l' → SR P ρ' n0 (8 + lenF l 0) (as.map (rnF (nm l))) l' := by
    intro as
    induction as with
    | nil => intro l' B _ h; exact ⟨h.1, by have := pin_len hpn; omega⟩
    | cons a as ih =>
      intro l' B ha h
      obtain ⟨f, fs, B', h1, h2, h3, h4⟩ := h
      exact ⟨f, fs, 8 + lenF l 0, h1, Nat.le_refl _, .inl (frame (ha a (by simp)) h3), ih (fun a h => ha a (by simp [h])) h4⟩
  have F' := frame q4 F
  refine ⟨fr, cs, w, Steps.refl _ _, ⟨⟨ρ', cfs, 8 + lenF l 0, Nat.le_refl _, H', .inl F', below q5 SS, hcs, O', X'⟩, topok_plain F' _, M.keep, M.size, ?_⟩⟩
  have : ∀ (as : List AFr) (a : AFr), EV.bot (rnF (nm l) a) (as.map (rnF (nm l))) = EV.bot a as := by
    intro as
    induction as with
    | nil => intro a; rfl
    | cons b as ih => intro a; exact ih b
  rw [show EV.bot (rnM l m).top (rnM l m).below = EV.bot m.top m.below from this _ _]
  exact M.bot
mutual
/-- a value that names no block -/
theorem VR.cool {ρ : Rho} : ∀ {v : AV} {c : Value}, idp (fun _ => false) v = true → VR ρ v c → VR ρ.cold v c
  | .int _ _, _, _, e => by simpa only [VR] using e
  | .bool _, _, _, e => by simpa only [VR] using e
  | .str _, _, _, e => by simpa only [VR] using e
  | .ptr _ _, _, i, _ => by simp [idp] at i
  | .nilptr, _, _, e => by simpa only [VR] using e
  | .sl _ _ _ _ _, _, i, _ => by simp [idp] at i
  | .nilsl, _, _, e => by simpa only [VR] using e
  | .slz _, _, _, e => by simpa only [VR] using e
  | .mp _, _, i, _ => by simp [idp] at i
  | .nilmap, _, _, e => by simpa only [VR] using e
  | .fn _ a cp, _, i, e => by
    simp only [VR, idp, Bool.and_eq_true] at e i ⊢
    obtain ⟨as, cs, h1, h2, h3⟩ := e
    exact ⟨as, cs, h1, VRs.cool i.1 h2, VRs.cool i.2 h3⟩
  | .nilfn, _, _, e => by simpa only [VR] using e
  | .yld _, _, i, _ => by simp [idp] at i
  | .agg _, _, i, e => by
    simp only [VR, idp] at e i ⊢
    obtain ⟨as, h1, h2⟩ := e
    exact ⟨as, h1, VRs.cool i h2⟩
  | .tup _, _, i, e => by
    simp only [VR, idp] at e i ⊢
    obtain ⟨as, h1, h2⟩ := e
    exact ⟨as, h1, VRs.cool i h2⟩
  | .ls _ _ _ _, _, _, q => by simp only [VR] at q ⊢; exact q
  | .lp _ _, _, _, q => by simp only [VR] at q ⊢; exact q
  | .ep _ _ _ _, _, i, _ => by simp [idp] at i
  | .es _ _ _ _ _, _, i, _ => by simp [idp] at i
theorem VRs.cool {ρ : Rho} : ∀ {vs : List AV} {l : List Value}, idps (fun _ => false) vs = true → VRs ρ vs l → VRs ρ.cold vs l
  | [], _, _, e => by simpa only [VRs] using e
  | v :: vs, _, i, e => by
    simp only [VRs, idps, Bool.and_eq_true] at e i ⊢
    obtain ⟨c, cs, h1, h2, h3⟩ := e
    exact ⟨c, cs, h1, VR.cool i.1 h2, VRs.cool i.2 h3⟩
end

end
end Go.EV
