/- Own text of this claim: an abstract machine over the given program form, and what follows from it. No condition. -/
import Derived.Test.YtekijepgmmemiaaGreatEv2
import Derived.Test.YtekijepgmmemiaaGreatFa
set_option linter.unusedVariables false
set_option linter.unusedSimpArgs false
set_option maxHeartbeats 1000000
namespace Go.EV
section
variable {P : Program} {S : Sum}

theorem forceN_eq {β : Type} (n : Nat) (k : Nat → β) : forceN n k = k n := by cases n <;> rfl
theorem forceT_eq {β : Type} (l : List AItem) (k : List AItem → β) : forceT l k = k l := by
  unfold forceT
  split
  · rfl
  · rw [forceN_eq]
  · rfl
theorem forceL_eq {α β : Type} (l : List α) (k : List α → β) : forceL l k = k l := by cases l <;> rfl
theorem forceC_eq {β : Type} (c : ACtl) (k : ACtl → β) : forceC c k = k c := by cases c; rfl
theorem forceB_eq {β : Type} (c : HB) (k : HB → β) : forceB c k = k c := by cases c; rfl
theorem forceM_eq {β : Type} (m : AM) (k : AM → β) : forceM m k = k m := by
  obtain ⟨⟨fn, ctl, n, ts, todo⟩, below, ⟨bs, next⟩, hs, l⟩ := m
  simp only [forceM, Tr.force_eq, forceN_eq, forceT_eq, forceL_eq, forceC_eq, forceB_eq]
theorem forceH_eq {β : Type} (h : AH) (k : AH → β) : forceH h k = k h := by
  cases h
  show forceH1 k _ _ = _
  simp only [forceH1, Tr.force_eq, forceN_eq]
theorem fz_eq (r : ARes) : fz r = r := by
  cases r with
  | run m => exact forceM_eq m _
  | done v h l => rfl
  | bad n => rfl

theorem told_log {f : FuncId} {d : Option Tmp} {v v' : AV} {hs : HB} {l l' : Log} (h : told f hs d v l = (v', l')) : ∀ e ∈ l, e ∈ l' := by
  unfold told at h
  split at h
  · split at h
    · split at h
      · cases h; exact fun e he => List.mem_cons_of_mem _ he
      · cases h; exact fun _ h => h
    · cases h; exact fun _ h => h
  · cases h; exact fun _ h => h

def ARes.has (l : Log) : ARes → Prop
  | .run m => ∀ e ∈ l, e ∈ m.log
  | .done _ _ l' => ∀ e ∈ l, e ∈ l'
  | .bad _ => True

theorem has_refl {m : AM} : ARes.has m.log (.run m) := fun _ h => h

theorem step_log {S : Sum} {m : AM} : (stepA P S m).has m.log := by
  have hpop : ∀ {h hs v below}, (popA P h hs m.log v below).has m.log := by
    intro h hs v below
    unfold popA
    repeat' split
    all_goals first | trivial | exact fun _ h => h
  have hleave : (leaveA P m).has m.log := by
    unfold leaveA
    repeat' split
    all_goals first | trivial | exact fun _ h => h | exact hpop
  have hround : ∀ {b j}, (roundEndA P m b j).has m.log := by
    intro b j
    unfold roundEndA
    repeat' split
    all_goals first | trivial | exact hpop
  have hleaveJ : ∀ {j}, (leaveJ P m j).has m.log := by
    intro j
    unfold leaveJ
    repeat' split
    all_goals first | trivial | exact hleave | exact hround
  have hnext : ∀ {ops rest k o v h}, (nextA m ops rest k o v h).has m.log := by
    intro ops rest k o v h
    unfold nextA
    split
    rename_i ht
    split
    · exact told_log ht
    · trivial
  have hheavy : ∀ {ops all done floats k x v h re}, (heavyA P m ops all done floats k x v h re).has m.log := by
    intro ops all done floats k x v h re
    unfold heavyA
    split
    rename_i ht
    split
    · exact told_log ht
    · trivial
  have hlight : ∀ {ops all done k r x fl l v h}, (∀ e ∈ m.log, e ∈ l) → (lightA m ops all done k r x fl l v h).has m.log := by
    intro ops all done k r x fl l v h hl
    unfold lightA
    split
    · exact hl
    · trivial
  have hD : ∀ {ops all done floats k rest}, (stepD P S m ops all done floats k rest).has m.log := by
    intro ops all done floats k rest
    cases rest with
    | cons x r =>
      simp only [stepD]
      repeat' split
      all_goals first
        | trivial
        | exact fun _ h => h
        | exact hlight (fun _ h => h)
        | exact hlight (told_log rfl)
    | nil =>
      simp only [stepD]
      repeat' split
      all_goals first
        | trivial
        | exact fun _ h => h
        | exact hheavy
  unfold stepA
  simp only
  repeat' split
  all_goals first
    | trivial
    | exact hleaveJ
    | exact hnext
    | exact hD
    | exact fun _ h => h

/-! ways to slots -/
theorem pg_eq : ∀ (f i : Nat) (t : Tr AV), (pg f i).f t = t.get i := by
  intro f
  induction f with
  | zero =>
    intro i t
    cases i with
    | zero => cases t <;> rfl
    | succ i => rfl
  | succ f ih =>
    intro i t
    cases i with
    | zero => cases t <;> rfl
    | succ i =>
      have ih := ih (i / 2)
      simp only [pg]
      revert ih
      cases pg f (i / 2) with
      | mk g =>
        intro ih
        cases hb : Nat.beq (i % 2) 0 with
        | true =>
          cases t with
          | nil => rfl
          | node v l r => rw [Tr.get_succ, hb]; exact ih l
          | fn f => rfl
        | false =>
          cases t with
          | nil => rfl
          | node v l r => rw [Tr.get_succ, hb]; exact ih r
          | fn f => rfl

theorem sing_fuel {α : Type} (v : α) : ∀ (f g i : Nat), i ≤ f → i ≤ g → Tr.sing v f i = Tr.sing v g i := by
  intro f
  induction f with
  | zero =>
    intro g i hf hg
    obtain rfl : i = 0 := by omega
    cases g <;> rfl
  | succ f ih =>
    intro g i hf hg
    cases i with
    | zero => cases g <;> rfl
    | succ i =>
      cases g with
      | zero => omega
      | succ g => simp only [Tr.sing, Tr.force_eq]; rw [ih g (i / 2) (by omega) (by omega)]

theorem set_nil_succ {α : Type} (v : α) (i : Nat) : Tr.set v (.nil : Tr α) (i + 1) = match Nat.beq (i % 2) 0 with | true => .node none (Tr.set v .nil (i / 2)) .nil | false => .node none .nil (Tr.set v .nil (i / 2)) := by
  simp only [Tr.set_nil, Tr.sing, Tr.force_eq]
  rw [sing_fuel v i (i / 2) (i / 2) (by omega) (by omega)]
  cases Nat.beq (i % 2) 0 <;> rfl

theorem ps_eq (β : Type) : ∀ (f i : Nat) (v : AV) (t : Tr AV) (k : Tr AV → β), (ps β f i).f v t k = k (Tr.set v t i) := by
  intro f
  induction f with
  | zero =>
    intro i v t k
    cases i with
    | zero => cases t <;> rfl
    | succ i => rfl
  | succ f ih =>
    intro i v t k
    cases i with
    | zero => cases t <;> rfl
    | succ i =>
      have ih := ih (i / 2)
      simp only [ps]
      revert ih
      cases ps β f (i / 2) with
      | mk s =>
        intro ih
        cases hb : Nat.beq (i % 2) 0 with
        | true =>
          cases t with
          | nil => rw [set_nil_succ, hb]; exact ih v .nil _
          | node u l r => rw [Tr.set_succ, hb]; exact ih v l _
          | fn f => rfl
        | false =>
          cases t with
          | nil => rw [set_nil_succ, hb]; exact ih v .nil _
          | node u l r => rw [Tr.set_succ, hb]; exact ih v r _
          | fn f => rfl

theorem cget_eq (o : Operand) (ts : Tr AV) : (cget o).f ts = evF ts.get o := by
  cases o with
  | tmp t => exact pg_eq t t ts
  | const v => simp only [cget, evF]; cases ofValue v <;> rfl
  | global g => rfl
  | func f => rfl
theorem cgetD_eq (nm : List Nat) (o : Operand) (ts : Tr AV) : (cgetD nm o).f ts = evF (only nm ts.get) o := by
  cases o with
  | tmp t =>
    simp only [cgetD, evF, only]
    cases hasN nm t with
    | true => exact pg_eq t t ts
    | false => rfl
  | const v => simp only [cgetD, evF]; cases ofValue v <;> rfl
  | global g => rfl
  | func f => rfl

/-! splits -/
theorem oCase_some {α β : Type} {k : α → Option β} {x : Option α} {r : β} (e : oCase none k x = some r) : ∃ v, x = some v ∧ k v = some r := by
  cases x with
  | none => cases e
  | some v => exact ⟨v, rfl, e⟩
theorem avInt_some {β : Type} {k : IntKind → Int → Option β} {x : AV} {r : β} (e : avInt none k x = some r) : ∃ c n, x = .int c n ∧ k c n = some r := by
  cases x <;> first | exact ⟨_, _, rfl, e⟩ | cases e
theorem avBool_some {β : Type} {k : Bool → Option β} {x : AV} {r : β} (e : avBool none k x = some r) : ∃ c, x = .bool c ∧ k c = some r := by
  cases x <;> first | exact ⟨_, rfl, e⟩ | cases e
theorem avPtr_some {β : Type} {k : Nat → Nat → Option β} {x : AV} {r : β} (e : avPtr none k x = some r) : ∃ b o, x = .ptr b o ∧ k b o = some r := by
  cases x <;> first | exact ⟨_, _, rfl, e⟩ | cases e
theorem avSl_some {β : Type} {k : Nat → Nat → Nat → Option Nat → Nat → Option β} {x : AV} {r : β} (e : avSl none k x = some r) : ∃ b o l c s, x = .sl b o l c s ∧ k b o l c s = some r := by
  cases x <;> first | exact ⟨_, _, _, _, _, rfl, e⟩ | cases e
theorem avTup_some {β : Type} {k : List AV → Option β} {x : AV} {r : β} (e : avTup none k x = some r) : ∃ vs, x = .tup vs ∧ k vs = some r := by
  cases x <;> first | exact ⟨_, rfl, e⟩ | cases e

theorem sameK_some {β : Type} {k k' : IntKind} {y : Option β} {r : β} (e : sameK k k' none y = some r) : k = k' ∧ y = some r := by
  cases k <;> cases k' <;> first | exact ⟨rfl, e⟩ | cases e
theorem iLt_eq (a b : Int) : iLt a b = decide (a < b) := by
  rw [Bool.eq_iff_iff, decide_eq_true_iff]
  cases a with
  | ofNat m => cases b with
    | ofNat n => show Nat.ble (m + 1) n = true ↔ _; rw [Nat.ble_eq]; simp only [Int.ofNat_eq_natCast]; omega
    | negSucc n => show false = true ↔ _; simp only [Int.ofNat_eq_natCast]; constructor <;> intro h <;> first | cases h | omega
  | negSucc m => cases b with
    | ofNat n => exact ⟨fun _ => Int.lt_of_lt_of_le (Int.negSucc_lt_zero m) (Int.natCast_nonneg n), fun _ => rfl⟩
    | negSucc n => show Nat.ble (n + 1) m = true ↔ _; rw [Nat.ble_eq]; simp only [Int.negSucc_eq]; omega
theorem iEq_eq (a b : Int) : iEq a b = (a == b) := by
  rw [Bool.eq_iff_iff, beq_iff_eq]
  cases a with
  | ofNat m => cases b with
    | ofNat n => show Nat.beq m n = true ↔ _; rw [Nat.beq_eq]; simp only [Int.ofNat_eq_natCast]; omega
    | negSucc n => show false = true ↔ _; simp only [Int.ofNat_eq_natCast]; constructor <;> intro h <;> first | cases h | omega
  | negSucc m => cases b with
    | ofNat n => show false = true ↔ _; simp only [Int.ofNat_eq_natCast]; constructor <;> intro h <;> first | cases h | omega
    | negSucc n => show Nat.beq n m = true ↔ _; rw [Nat.beq_eq]; simp only [Int.negSucc_eq]; omega

theorem ints_some {g : IntKind → Int → Int → Option AV} {x y r : AV} (e : ints g x y = some r) : ∃ k a b, x = .int k a ∧ y = .int k b ∧ g k a b = some r := by
  obtain ⟨k, a, rfl, e1⟩ := avInt_some e
  obtain ⟨k', b, rfl, e2⟩ := avInt_some (show avInt none (fun k' b => sameK k k' none (g k a b)) y = some r from e1)
  obtain ⟨rfl, e3⟩ := sameK_some e2
  exact ⟨k, a, b, rfl, rfl, e3⟩

theorem gEql_some {t : TypeId} {x y r : AV} (e : gEql P t x y = some r) : bin P .eql t x y = some r := by
  cases x with
  | int k a =>
    obtain ⟨k', b, rfl, e2⟩ := avInt_some (show avInt none (fun k' b => sameK k k' none (some (.bool (iEq a b)))) y = some r from e)
    obtain ⟨rfl, e3⟩ := sameK_some e2
    simp only [bin, decide_true, cmpI, ← iEq_eq]
    exact e3
  | _ => exact e
theorem gNeq_some {t : TypeId} {x y r : AV} (e : gNeq P t x y = some r) : bin P .neq t x y = some r := by
  cases x with
  | int k a =>
    obtain ⟨k', b, rfl, e2⟩ := avInt_some (show avInt none (fun k' b => sameK k k' none (some (.bool (!iEq a b)))) y = some r from e)
    obtain ⟨rfl, e3⟩ := sameK_some e2
    simp only [bin, decide_true, cmpI, bne, ← iEq_eq]
    exact e3
  | _ => exact e

theorem cbin_some {t : TypeId} {op : BinOp} {x y r : AV} (e : (cbin P t op).f x y = some r) : bin P op t x y = some r := by
  unfold cbin at e
  split at e
  · obtain ⟨k, a, b, rfl, rfl, e'⟩ := ints_some e
    simp only [bin, decide_true, arith]; exact e'
  · obtain ⟨k, a, b, rfl, rfl, e'⟩ := ints_some e
    simp only [bin, decide_true, arith]; exact e'
  · obtain ⟨k, a, b, rfl, rfl, e'⟩ := ints_some e
    simp only [bin, decide_true, arith]; exact e'
  · obtain ⟨k, a, b, rfl, rfl, e'⟩ := ints_some e
    simp only [bin, decide_true, cmpI, ← iLt_eq]; exact e'
  · obtain ⟨k, a, b, rfl, rfl, e'⟩ := ints_some e
    simp only [bin, decide_true, cmpI, gt_iff_lt, ← iLt_eq]; exact e'
  · obtain ⟨k, a, b, rfl, rfl, e'⟩ := ints_some e
    simp only [bin, decide_true, cmpI]
    simp only [gGeq, iLt_eq] at e'
    rw [← e']
    congr 2
    rw [Bool.eq_iff_iff]; simp
  · obtain ⟨k, a, b, rfl, rfl, e'⟩ := ints_some e
    simp only [bin, decide_true, cmpI]
    simp only [gLeq, iLt_eq] at e'
    rw [← e']
    congr 2
    rw [Bool.eq_iff_iff]; simp
  · exact gEql_some e
  · exact gNeq_some e
  · exact e

/-! memory -/
theorem zX_eq (z : List AV) (i : Nat) : zX z i = z[i % z.length]? := by
  cases z with
  | nil => simp [zX]
  | cons v r => cases r with
    | nil => simp [zX, Nat.mod_one]
    | cons u r => rfl
theorem rowX_eq (n : Nat) (z : List AV) (t : Tr AV) (i : Nat) : rowX n z t i = rowGet n z t i := by
  unfold rowX rowGet
  cases Nat.blt i n with
  | false => rfl
  | true =>
    simp only [zX_eq]
    cases t.get i <;> rfl
theorem cellX_eq (h : AH) (b off : Nat) : cellX h b off = h.cell b off := by
  cases h with
  | mk bs nx =>
    show oCase none (blkX off) (bs.get b) = _
    unfold AH.cell
    simp only
    cases bs.get b with
    | none => rfl
    | some o => cases o with
      | row n z t => exact rowX_eq n z t off
      | ro n f =>
        show Bool.rec (motive := fun _ => Option AV) none (some (f off)) (Nat.blt off n) = _
        simp only
        cases Nat.blt off n <;> rfl
      | _ => rfl
theorem ldNb_eq (n : Nat) (h : AH) (b off : Nat) : ldNb n h b off = match h.cells b off n with | some cs => some (.agg cs) | none => none := by
  unfold ldNb
  cases h.cells b off n <;> rfl
theorem load1 {t : TypeId} (ha : isAgg P t = some false) (h : AH) (b off : Nat) : loadV P h t b off = cellX h b off := by
  unfold loadV; rw [ha, cellX_eq]
theorem loadN {t : TypeId} {n : Nat} (ha : isAgg P t = some true) (hs : sizeOf P t = some n) (h : AH) (b off : Nat) : loadV P h t b off = ldNb n h b off := by
  unfold loadV; simp only [ha, hs, ldNb_eq]; cases h.cells b off n <;> rfl

/-- what is made of an operation does what it does -/
def COk (P : Program) (g : Tr AV → Nat → Option AV) (op : Op) : COp → Prop
  | .slots f => kindOf op = .pure ∧ ∀ ts r, f ts = some r → pureOp P (evF (g ts)) op = some r
  | .look f => ∃ t x, op = .load t x ∧ ∀ ts h v, f ts h = some v → ∃ b off, evF (g ts) x = some (.ptr b off) ∧ loadV P h t b off = some v
  | .eff f => ∀ ts h r, f ts h = some r → plainOp P ts h op = some r

theorem copE_ok {g : Tr AV → Nat → Option AV} {op : Op} : COk P g op (copE P op) := fun _ _ _ e => e

theorem cpure_ok {g : Tr AV → Nat → Option AV} {cg : Operand → CGet} (hg : ∀ o ts, (cg o).f ts = evF (g ts) o) {e : COp} {op : Op} (he : COk P g op e) : COk P g op (cpure P cg e op) := by
  have hg' : ∀ {o : Operand} {a : Tr AV → Option AV}, cg o = ⟨a⟩ → ∀ ts, a ts = evF (g ts) o := by
    intro o a h ts
    rw [← hg o ts, h]
  unfold cpure
  split
  · split
    rename_i x a ha
    exact ⟨rfl, fun ts r e => by rw [hg' ha] at e; exact e⟩
  · split
    rename_i x a ha
    exact ⟨rfl, fun ts r e => by rw [hg' ha] at e; exact e⟩
  · rename_i bop t x y w
    split
    rename_i a ha
    split
    rename_i b hb
    split
    rename_i c hc
    refine ⟨rfl, fun ts r e => ?_⟩
    obtain ⟨u, e1, e⟩ := oCase_some e
    obtain ⟨v, e2, e⟩ := oCase_some e
    rw [hg' ha] at e1
    rw [hg' hb] at e2
    simp only [pureOp, e1, e2]
    exact cbin_some (by rw [hc]; exact e)
  · rename_i t x
    split
    rename_i a ha
    split
    · rename_i hag
      split
      · rename_i n hn
        refine ⟨t, x, rfl, fun ts h v e => ?_⟩
        obtain ⟨p, e1, e⟩ := oCase_some e
        obtain ⟨b, off, rfl, e⟩ := avPtr_some e
        rw [hg' ha] at e1
        exact ⟨b, off, e1, by rw [loadN hag hn]; exact e⟩
      · exact he
    · rename_i hag
      refine ⟨t, x, rfl, fun ts h v e => ?_⟩
      obtain ⟨p, e1, e⟩ := oCase_some e
      obtain ⟨b, off, rfl, e⟩ := avPtr_some e
      rw [hg' ha] at e1
      exact ⟨b, off, e1, by rw [load1 hag]; exact e⟩
    · exact he
  · rename_i t x f
    split
    · rename_i fs a hu ha
      split
      · rename_i fd hfd
        split
        · rename_i n o hs
          refine ⟨rfl, fun ts r e => ?_⟩
          obtain ⟨p, e1, e⟩ := oCase_some e
          obtain ⟨b, off, rfl, e⟩ := avPtr_some e
          rw [hg' ha] at e1
          simp only [pureOp, hu, e1, hfd, hs]
          exact e
        · exact he
      · exact he
    · exact he
  · rename_i t x f
    split
    · rename_i fs a hu ha
      split
      · rename_i fd hfd
        refine ⟨rfl, fun ts r e => ?_⟩
        simp only [hg' ha] at e
        split at e
        · rename_i cs hx
          simp only [pureOp, hu, hx, hfd]
          exact e
        · cases e
      · exact he
    · exact he
  · rename_i t x ix
    split
    · rename_i elem a b hu ha hb
      split
      · rename_i sz hs
        refine ⟨rfl, fun ts r e => ?_⟩
        obtain ⟨u, e1, e⟩ := oCase_some e
        obtain ⟨v, e2, e⟩ := oCase_some e
        rw [hg' ha] at e1
        rw [hg' hb] at e2
        obtain ⟨k, i, rfl, e⟩ := avInt_some e
        cases i with
        | negSucc i => cases e
        | ofNat i =>
          obtain ⟨b, off, len, cap, esz, rfl, e5⟩ := avSl_some (show avSl none (ix3 sz i) u = some r from e)
          unfold ix3 at e5
          cases hlt : Nat.blt i len with
          | false => rw [hlt] at e5; cases e5
          | true =>
            rw [hlt] at e5
            have hl : i < len := by simp [Nat.blt] at hlt; omega
            have hc : (decide ((0 : Int) ≤ Int.ofNat i) && decide (Int.ofNat i < (len : Int))) = true := by
              simp only [Int.ofNat_eq_natCast, Bool.and_eq_true, decide_eq_true_eq]; omega
            simp only [pureOp, e1, e2, idx, hu, hs, hc]
            exact e5
      · exact he
    · exact he
  · rename_i x i
    split
    rename_i a ha
    refine ⟨rfl, fun ts r e => ?_⟩
    obtain ⟨u, e1, e⟩ := oCase_some e
    obtain ⟨vs, rfl, e⟩ := avTup_some e
    rw [hg' ha] at e1
    simp only [pureOp, e1]
    exact e
  · rename_i s t x
    split
    · rename_i k1 k a hs ht ha
      refine ⟨rfl, fun ts r e => ?_⟩
      obtain ⟨u, e1, e⟩ := oCase_some e
      obtain ⟨c, n, rfl, e⟩ := avInt_some e
      rw [hg' ha] at e1
      simp only [pureOp, hs, ht, e1]
      exact e
    · exact he
  · rename_i c x y
    split
    rename_i a b d ha hb hd
    refine ⟨rfl, fun ts r e => ?_⟩
    obtain ⟨u, e1, e⟩ := oCase_some e
    obtain ⟨b', rfl, e⟩ := avBool_some e
    rw [hg' ha] at e1
    cases b' with
    | true =>
      simp only [pureOp, e1]
      rw [← hg' hb]; exact e
    | false =>
      simp only [pureOp, e1]
      rw [← hg' hd]; exact e
  · rename_i t x
    split
    rename_i a ha
    refine ⟨rfl, fun ts r e => ?_⟩
    obtain ⟨u, e1, e⟩ := oCase_some e
    obtain ⟨b', rfl, e⟩ := avBool_some e
    rw [hg' ha] at e1
    simp only [pureOp, e1]
    exact e
  · exact he

theorem cop_ok (op : Op) : COk P (fun ts => ts.get) op (cop P op) := by
  unfold cop
  split
  · rename_i t x y
    split
    rename_i a c ha hc
    intro ts h r e
    obtain ⟨p, e1, e3⟩ := oCase_some e
    obtain ⟨v, e2, e4⟩ := oCase_some e3
    obtain ⟨b, off, rfl, e5⟩ := avPtr_some e4
    have e1 : ev ts x = some (.ptr b off) := by rw [← e1]; unfold ev; rw [← cget_eq, ha]
    have e2 : ev ts y = some v := by rw [← e2]; unfold ev; rw [← cget_eq, hc]
    unfold plainOp
    simp only [kindOf, effOp, e1, e2]
    unfold st2 at e5
    exact e5
  · split
    · rename_i hk
      exact cpure_ok (fun o ts => cget_eq o ts) ⟨hk, fun ts r e => e⟩
    · exact cpure_ok (fun o ts => cget_eq o ts) copE_ok
    · exact copE_ok

theorem COk.slots {op : Op} {f : Tr AV → Option AV} (h : COk P (fun ts => ts.get) op (.slots f)) {ts : Tr AV} {H : AH} {r : AV} (e : f ts = some r) : plainOp P ts H op = some (r, H) := by
  unfold plainOp
  have h2 : pureOp P (ev ts) op = some r := h.2 ts r e
  simp only [h.1, h2]
theorem COk.look {op : Op} {f : Tr AV → AH → Option AV} (h : COk P (fun ts => ts.get) op (.look f)) {ts : Tr AV} {H : AH} {r : AV} (e : f ts H = some r) : plainOp P ts H op = some (r, H) := by
  obtain ⟨t, x, rfl, h⟩ := h
  obtain ⟨b, off, e1, e2⟩ := h ts H r e
  have e1 : ev ts x = some (.ptr b off) := e1
  unfold plainOp
  simp only [kindOf, e1, loadA, e2]


/-! operations that go on as if their bounds were right -/
theorem plainG_eq (ts : Tr AV) (h : AH) (op : Op) : plainOp P ts h op = plainG P (evF ts.get) h op := rfl

theorem avInt_is {β : Type} {d : β} {k : IntKind → Int → β} {c : IntKind} {n : Int} : avInt d k (.int c n) = k c n := rfl

theorem binU_some {a b : Tr AV → Option AV} {g : AH → AV → AV → Option (AV × AH × Bool)} {fr : Tr AV} {h : AH} {r : AV × AH × Bool} (e : binU a b g fr h = some r) : ∃ u v, a fr = some u ∧ b fr = some v ∧ g h u v = some r := by
  obtain ⟨u, h1, e1⟩ := oCase_some e
  obtain ⟨v, h2, e2⟩ := oCase_some e1
  exact ⟨u, v, h1, h2, e2⟩

theorem getN_cells {h : AH} {b n : Nat} {g : Nat → Option AV} (hc : ∀ j v, j < n → g j = some v → h.cell b j = some v) : ∀ (k off : Nat) (vs : List AV), getN g off k = some vs → off + k ≤ n → h.cells b off k = some vs
  | 0, off, vs, e, _ => e
  | k + 1, off, vs, e, hle => by
    simp only [getN] at e
    split at e
    · rename_i v hv
      split at e
      · rename_i us hu
        simp only [AH.cells, hc off v (by omega) hv, getN_cells hc k (off + 1) us hu (by omega)]
        exact e
      · cases e
    · cases e

theorem uLd_ok {t : TypeId} {agg : Bool} {k : Nat} (hk : ldKind P t = some (agg, k)) {h : AH} {b off : Nat} {v : AV} (e : uLd agg k h b off = some (v, true)) : loadV P h t b off = some v := by
  obtain ⟨o, ho, e⟩ := oCase_some e
  have cell : ∀ {n : Nat} {g : Nat → Option AV}, (∀ j v, j < n → g j = some v → h.cell b j = some v) → ∀ v', (agg = true → ∃ vs, getN g off k = some vs ∧ v' = .agg vs ∧ off + k ≤ n) → (agg = false → g off = some v' ∧ off < n) → loadV P h t b off = some v' := by
    intro n g hc v' h1 h2
    unfold ldKind at hk
    split at hk
    · rename_i ha
      split at hk
      · rename_i m hm
        simp only [Option.some.injEq, Prod.mk.injEq] at hk
        obtain ⟨rfl, rfl⟩ := hk
        obtain ⟨vs, e1, rfl, e2⟩ := h1 rfl
        unfold loadV
        simp only [ha, hm, getN_cells hc _ off vs e1 e2]
      · cases hk
    · rename_i ha
      simp only [Option.some.injEq, Prod.mk.injEq] at hk
      obtain ⟨rfl, rfl⟩ := hk
      obtain ⟨e1, e2⟩ := h2 rfl
      unfold loadV
      simp only [ha, hc off v' e2 e1]
    · cases hk
  cases o with
  | ro n f =>
    have hc : ∀ j v, j < n → (fun j => some (f j)) j = some v → h.cell b j = some v := by
      intro j v hj hv
      unfold AH.cell
      simp only [ho]
      rw [show Nat.blt j n = true by simp [Nat.blt]; omega]
      exact hv
    cases agg with
    | true =>
      simp only [uBlk] at e
      split at e
      · rename_i vs hvs
        simp only [Option.some.injEq, Prod.mk.injEq, Nat.ble_eq] at e
        exact cell hc v (fun _ => ⟨vs, hvs, e.1.symm, e.2⟩) (fun h => by cases h)
      · cases e
    | false =>
      simp only [uBlk, Option.some.injEq, Prod.mk.injEq] at e
      exact cell hc v (fun h => by cases h) (fun _ => ⟨by rw [← e.1], by have := e.2; simp [Nat.blt] at this; omega⟩)
  | row n z t' =>
    have hc : ∀ j v, j < n → t'.get j = some v → h.cell b j = some v := by
      intro j v hj hv
      unfold AH.cell rowGet
      simp only [ho]
      rw [show Nat.blt j n = true by simp [Nat.blt]; omega]
      simp only [hv]
    cases agg with
    | true =>
      simp only [uBlk] at e
      split at e
      · rename_i vs hvs
        simp only [Option.some.injEq, Prod.mk.injEq, Nat.ble_eq] at e
        exact cell hc v (fun _ => ⟨vs, hvs, e.1.symm, e.2⟩) (fun h => by cases h)
      · cases e
    | false =>
      simp only [uBlk] at e
      split at e
      · rename_i u hu
        simp only [Option.some.injEq, Prod.mk.injEq] at e
        exact cell hc v (fun h => by cases h) (fun _ => ⟨by rw [hu, e.1], by have := e.2; simp [Nat.blt] at this; omega⟩)
      · cases e
  | _ => cases e

theorem rowList_cells {h : AH} {b n : Nat} {f : Nat → AV} : ∀ (k off : Nat), (∀ j, off ≤ j → j < off + k → h.cell b j = some (f j)) → h.cells b off k = some (rowList f off k)
  | 0, off, _ => rfl
  | k + 1, off, hc => by
    have h1 := rowList_cells (h := h) (b := b) (n := n) (f := f) k (off + 1) (fun j h1 h2 => hc j (by omega) (by omega))
    simp only [AH.cells, hc off (by omega) (by omega), h1]
    rfl
theorem allSome_at {g : Nat → Option AV} : ∀ (k off : Nat), allSome g off k = true → ∀ j, off ≤ j → j < off + k → g j = some (orUndef (g j))
  | 0, off, _, j, h1, h2 => by omega
  | k + 1, off, e, j, h1, h2 => by
    simp only [allSome, Bool.and_eq_true] at e
    by_cases hj : j = off
    · subst hj
      cases hg : g j with
      | none => rw [hg] at e; cases e.1
      | some v => rfl
    · exact allSome_at k (off + 1) e.2 j (by omega) (by omega)

theorem uSrc_ok {h : AH} {esz n : Nat} {x : AV} {new : List AV} (e : uSrc h esz n x = some (new, true)) : srcCells h esz n x = some new := by
  unfold uSrc at e
  split at e
  · rename_i b off len cap sz
    split at e
    · rename_i hsz
      split at e
      · rename_i m f hb
        simp only [Option.some.injEq, Prod.mk.injEq, Bool.and_eq_true, Nat.ble_eq] at e
        obtain ⟨rfl, e1, e2⟩ := e
        have e0 : (Nat.ble n len && Nat.beq sz esz) = true := by rw [hsz]; simpa using e1
        unfold srcCells
        simp only [e0, cellsF_eq]
        refine rowList_cells (n := m) _ _ fun j h1 h2 => ?_
        unfold AH.cell
        simp only [hb]
        rw [show Nat.blt j m = true by simp [Nat.blt]; omega]
      · rename_i m z g hb
        simp only [Option.some.injEq, Prod.mk.injEq, Bool.and_eq_true, Nat.ble_eq] at e
        obtain ⟨rfl, ⟨e1, e2⟩, e3⟩ := e
        have e0 : (Nat.ble n len && Nat.beq sz esz) = true := by rw [hsz]; simpa using e1
        unfold srcCells
        simp only [e0, cellsF_eq]
        refine rowList_cells (n := m) _ _ fun j h1 h2 => ?_
        have h3 := allSome_at _ _ e3 j h1 h2
        unfold AH.cell
        simp only [hb]
        unfold rowGet
        rw [show Nat.blt j m = true by simp [Nat.blt]; omega]
        have h4 : (Tr.fn g).get j = some (orUndef (g j)) := h3
        simp only [h4]
      · cases e
    · cases e
  · split at e
    · simp only [Option.some.injEq, Prod.mk.injEq, and_true] at e
      subst e; rfl
    · cases e
  · split at e
    · simp only [Option.some.injEq, Prod.mk.injEq, and_true] at e
      subst e; rfl
    · cases e
  · cases e
theorem uJoin_ok {h : AH} {b off len : Nat} {new : List AV} {r : ABlk} (e : uJoin h b off len new = some (r, true)) : joinRow h b off len new = some r := by
  unfold uJoin at e
  split at e
  · rename_i m z t hb
    simp only [Option.some.injEq, Prod.mk.injEq] at e
    unfold joinRow rowOf
    simp only [hb, e.2, e.1]
  · cases e
theorem uApp_els {size bytes zl : Nat} {h : AH} {s x : AV} {r : AV × AH × Bool} (e : uApp size bytes zl h s x = some r) : (isEls s || isEls x) = false := by
  unfold uApp at e
  split at e
  · split at e
    · split at e
      · rename_i hs
        unfold uSrc at hs
        split at hs <;> first | rfl | cases hs
      · cases e
    · cases e
  · cases e
theorem uApp_ok {P : Program} {t t2 elem e2 : TypeId} {d z : _} (hu : P.underlying t = some (.slice elem)) (hu2 : P.underlying t2 = some (.slice e2)) (hi : P.info? elem = some d) (hz : zeroOf P elem = some z) {h h' : AH} {s x v : AV}
    (e : uApp d.size d.bytes z.length h s x = some (v, h', true)) : appendV P h t t2 s x = some (v, h') := by
  unfold uApp at e
  split at e
  · rename_i b off len cap esz
    split at e
    · rename_i n hn
      split at e
      · rename_i new c hs
        split at e
        · rename_i r c2 hj
          have hl : lenA (.sl b off len cap esz) = some len := rfl
          split at e
          · rename_i k
            simp only [Option.some.injEq, Prod.mk.injEq, Bool.and_eq_true, Bool.not_eq_true'] at e
            obtain ⟨rfl, rfl, ⟨⟨⟨⟨⟨⟨⟨q1, q2⟩, q3⟩, q4⟩, rfl⟩, q5, q6⟩, q7⟩, q8⟩, rfl⟩ := e
            unfold appendV
            simp only [hu, hu2, hi, hz, hl, hn, uSrc_ok hs, q1, q2, q3, q4, q5, q6, q7, q8, uJoin_ok hj, Bool.and_self]
          · simp only [Option.some.injEq, Prod.mk.injEq, Bool.and_eq_true] at e
            obtain ⟨rfl, rfl, ⟨⟨⟨⟨⟨⟨q1, q2⟩, q3⟩, q4⟩, rfl⟩, q5, q6⟩, q7⟩, rfl⟩ := e
            unfold appendV
            simp only [hu, hu2, hi, hz, hl, hn, uSrc_ok hs, q1, q2, q3, q4, q5, q6, q7, uJoin_ok hj, Bool.and_self]
        · cases e
      · cases e
    · cases e
  · cases e

theorem cSure_ok {g : Tr AV → Nat → Option AV} {cg : Operand → CGet} (hg : ∀ o ts, (cg o).f ts = evF (g ts) o) {op : Op} {ts : Tr AV} {h h' : AH} {v : AV} (e : (cSure P cg op).f ts h = some (v, h', true)) :
    plainG P (evF (g ts)) h op = some (v, h') := by
  unfold cSure at e
  split at e
  · obtain ⟨x, y, e1, e2, e3⟩ := binU_some e
    rw [hg] at e1 e2
    obtain ⟨k, a, rfl, e4⟩ := avInt_some e3
    obtain ⟨k', b, rfl, e5⟩ := avInt_some (show avInt none (intsU2 uRem h k a) y = some _ from e4)
    obtain ⟨rfl, e6⟩ := sameK_some e5
    simp only [uRem, Option.some.injEq, Prod.mk.injEq, Bool.not_eq_true'] at e6
    obtain ⟨rfl, rfl, e7⟩ := e6
    rw [iEq_eq, beq_eq_false_iff_ne] at e7
    simp only [plainG, kindOf, pureOp, e1, e2, bin, decide_true, arith, if_neg e7]
  · obtain ⟨x, y, e1, e2, e3⟩ := binU_some e
    rw [hg] at e1 e2
    obtain ⟨k, a, rfl, e4⟩ := avInt_some e3
    obtain ⟨k', b, rfl, e5⟩ := avInt_some (show avInt none (intsU2 uQuo h k a) y = some _ from e4)
    obtain ⟨rfl, e6⟩ := sameK_some e5
    simp only [uQuo, Option.some.injEq, Prod.mk.injEq, Bool.not_eq_true'] at e6
    obtain ⟨rfl, rfl, e7⟩ := e6
    rw [iEq_eq, beq_eq_false_iff_ne] at e7
    simp only [plainG, kindOf, pureOp, e1, e2, bin, decide_true, arith, if_neg e7]
  · rename_i t x ix
    split at e
    · rename_i elem hu
      split at e
      · rename_i sz hs
        obtain ⟨x, y, e1, e2, e3⟩ := binU_some e
        rw [hg] at e1 e2
        obtain ⟨k, i, rfl, e4⟩ := avInt_some e3
        cases i with
        | negSucc j => cases e4
        | ofNat j =>
          obtain ⟨b, off, len, cap, esz, rfl, e5⟩ := avSl_some (show avSl none (fun b off len _ _ => some (AV.ptr b (off + j * sz), h, Nat.blt j len)) x = some _ from e4)
          simp only [Option.some.injEq, Prod.mk.injEq] at e5
          obtain ⟨rfl, rfl, e6⟩ := e5
          have hl : j < len := by simp [Nat.blt] at e6; omega
          have hc : (decide ((0 : Int) ≤ Int.ofNat j) && decide (Int.ofNat j < (len : Int))) = true := by
            simp only [Int.ofNat_eq_natCast, Bool.and_eq_true, decide_eq_true_eq]; omega
          simp only [plainG, kindOf, pureOp, e1, e2, idx, hu, hs, hc]
          rfl
      · cases e
    · cases e
  · rename_i t x
    split at e
    · rename_i agg k hk
      obtain ⟨p, e1, e2⟩ := oCase_some e
      rw [hg] at e1
      obtain ⟨b, off, rfl, e3⟩ := avPtr_some e2
      obtain ⟨q, e4, e5⟩ := oCase_some e3
      obtain ⟨q1, q2⟩ := q
      simp only [Option.some.injEq, Prod.mk.injEq] at e5
      obtain ⟨rfl, rfl, rfl⟩ := e5
      simp only [plainG, kindOf, e1, loadA, uLd_ok hk e4]
    · cases e
  · rename_i t x y
    split at e
    · rename_i k hk
      obtain ⟨p, v0, e1, e2, e3⟩ := binU_some (show binU (cg x).f (cg y).f (fun h p v => avPtr none (uSt k h v) p) ts h = some _ from e)
      rw [hg] at e1 e2
      obtain ⟨b, off, rfl, e4⟩ := avPtr_some e3
      unfold uSt at e4
      split at e4
      · rename_i hc
        split at e4
        · rename_i n z t' hb
          simp only [Option.some.injEq, Prod.mk.injEq] at e4
          obtain ⟨rfl, rfl, e5⟩ := e4
          simp only [plainG, kindOf, effOp, e1, e2, storeA, storeV, hk, hc, AH.put, hb, e5]
        · cases e4
      · cases e4
    · cases e
  · rename_i t l c
    split at e
    · rename_i elem hu
      obtain ⟨x, y, e1, e2, e3⟩ := binU_some e
      rw [hg] at e1 e2
      unfold uMk at e3
      split at e3
      · split at e3
        · rename_i i z hi hz
          split at e3
          · rename_i hc
            simp only [Option.some.injEq, Prod.mk.injEq, Bool.and_eq_true] at e3
            obtain ⟨rfl, rfl, ⟨e4, e5⟩, e6⟩ := e3
            simp only [Bool.and_eq_true] at hc
            simp only [plainG, kindOf, newOp, e1, e2, hu, hi, hz, e4, e5, e6, hc.1, hc.2, Bool.and_self]
          · cases e3
        · cases e3
      · cases e3
    · cases e
  · rename_i args argTypes
    split at e
    · rename_i sx xx t t2 ha ht
      split at e
      · rename_i elem e2 hu hu2
        split at e
        · rename_i d z hi hz
          obtain ⟨x, y, e1, e2, e3⟩ := binU_some e
          rw [hg] at e1 e2
          have := uApp_ok (P := P) hu hu2 hi hz e3
          simp only [plainG, kindOf, effOp, ha, ht, e1, e2, appendA, uApp_els e3, this]
        · cases e
      · cases e
    · cases e
  · cases e

theorem cSym_ok {g : Tr AV → Nat → Option AV} {cg : Operand → CGet} (hg : ∀ o ts, (cg o).f ts = evF (g ts) o) {op : Op} {c : COp} (hc : COk P g op c) {u : Sure} {ts : Tr AV} {h h' : AH} {v : AV} (e : (cSym P cg c op u).f ts h = some (v, h', true)) :
    plainG P (evF (g ts)) h op = some (v, h') := by
  cases u with
  | sure => exact cSure_ok hg e
  | int n =>
    cases c with
    | slots f =>
      obtain ⟨v0, e1, e2⟩ := oCase_some e
      obtain ⟨k, c, rfl, e3⟩ := avInt_some e2
      simp only [Option.some.injEq, Prod.mk.injEq, iEq_eq, beq_iff_eq] at e3
      obtain ⟨rfl, rfl, rfl⟩ := e3
      simp only [plainG, hc.1, hc.2 ts _ e1]
    | look f =>
      obtain ⟨v0, e1, e2⟩ := oCase_some e
      obtain ⟨k, c, rfl, e3⟩ := avInt_some e2
      simp only [Option.some.injEq, Prod.mk.injEq, iEq_eq, beq_iff_eq] at e3
      obtain ⟨rfl, rfl, rfl⟩ := e3
      obtain ⟨t, x, rfl, hl⟩ := hc
      obtain ⟨b, off, e4, e5⟩ := hl ts h _ e1
      simp only [plainG, kindOf, e4, loadA, e5]
    | eff f => cases e

theorem usure_told {fn : FuncId} {hs : HB} {o : Oper} {u : Sure} (e : usure fn hs o = some u) (v : AV) (l : Log) : told fn hs o.dst v l = (v, l) := by
  unfold usure ctold at e
  unfold told
  cases hd : o.dst with
  | none => rfl
  | some d =>
    simp only [hd] at e
    cases hf : hs.f fn d with
    | none => simp only [hf]
    | some g => simp only [hf] at e; cases e

/-! steps -/
/-- many steps; a check that holds may be put into the log -/
inductive Star (P : Program) (S : Sum) : AM → AM → Prop where
  | refl (m : AM) : Star P S m m
  | cons {m m' m2 : AM} : stepA P S m = .run m' → Star P S m' m2 → Star P S m m2
  | pad {top : AFr} {below : List AFr} {h : AH} {hs : HB} {l : Log} {c : Bool} {m2 : AM} : c = true → Star P S ⟨top, below, h, hs, (c, true) :: l⟩ m2 → Star P S ⟨top, below, h, hs, l⟩ m2

theorem Star.trans {a b c : AM} (h1 : Star P S a b) (h2 : Star P S b c) : Star P S a c := by
  induction h1 with
  | refl => exact h2
  | cons e _ ih => exact .cons e (ih h2)
  | pad e _ ih => exact .pad e (ih h2)
theorem Star.one {a b : AM} (h : stepA P S a = .run b) : Star P S a b := .cons h (.refl _)

theorem star_log {m m' : AM} (h : Star P S m m') : ∀ e ∈ m.log, e ∈ m'.log := by
  induction h with
  | refl => exact fun _ h => h
  | @cons a b c e _ ih =>
    have h1 := step_log (P := P) (S := S) (m := a)
    rw [e] at h1
    exact fun x hx => ih x (h1 x hx)
  | pad _ _ ih => exact fun x hx => ih x (List.mem_cons_of_mem _ hx)

/-- some steps, and the last one's outcome, if the log holds -/
def Reach (P : Program) (S : Sum) (m : AM) : ARes → Prop
  | .run m' => LogOk m'.log → Star P S m m'
  | .done v h l => LogOk l → ∃ m1, Star P S m m1 ∧ stepA P S m1 = .done v h l
  | .bad _ => True

theorem Reach.step {m : AM} : Reach P S m (stepA P S m) := by
  cases h : stepA P S m with
  | run m' => exact fun _ => .one h
  | done v h' l => exact fun _ => ⟨m, .refl _, h⟩
  | bad n => trivial
theorem Reach.before {a b : AM} {r : ARes} (h1 : Star P S a b) (h2 : Reach P S b r) : Reach P S a r := by
  cases r with
  | run m' => exact fun hl => h1.trans (h2 hl)
  | done v h l => intro hl; obtain ⟨m1, s, e⟩ := h2 hl; exact ⟨m1, h1.trans s, e⟩
  | bad n => trivial
theorem Reach.of {m : AM} {r : ARes} (h : stepA P S m = r) : Reach P S m r := h ▸ Reach.step
theorem Reach.padc {m : AM} {c : Bool} {r : ARes} (hr : r.has ((c, true) :: m.log)) (h : c = true → Reach P S (padM m c) r) : Reach P S m r := by
  have key : LogOk ((c, true) :: m.log) → c = true := fun hl => hl (c, true) (List.mem_cons_self ..)
  cases r with
  | run m' =>
    intro hl
    have hc := hl (c, true) (hr _ (List.mem_cons_self ..))
    exact .pad hc (h hc hl)
  | done v h' l' =>
    intro hl
    have hc := hl (c, true) (hr _ (List.mem_cons_self ..))
    obtain ⟨m1, s, e⟩ := h hc hl
    exact ⟨m1, .pad hc s, e⟩
  | bad n => trivial
theorem cutT_none {T : TSum} {f : FuncId} {a : List AV} {h : AH} {v : AV} {g : Option AH} (e : T f a h = some (v, g, none)) : cutT T f a h = some (v, g) := by
  unfold cutT; rw [e]
theorem cutT_true {T : TSum} {f : FuncId} {a : List AV} {h : AH} {v : AV} {g : Option AH} (e : T f a h = some (v, g, some true)) : cutT T f a h = some (v, g) := by
  unfold cutT; rw [e]
theorem cutT_no {T : TSum} {f : FuncId} {a : List AV} {h : AH} (e : T f a h = none) : cutT T f a h = none := by
  unfold cutT; rw [e]
theorem cutT_toT (S : Sum) : cutT (toT S) = S := by
  funext f a h
  unfold cutT toT
  cases S f a h with
  | none => rfl
  | some p => rfl
theorem Reach.cond {m m1 : AM} {l : Log} {r : ARes} (hr : r.has l) (h1 : LogOk l → Star P S m m1) (h2 : LogOk l → Reach P S m1 r) : Reach P S m r := by
  cases r with
  | run m' => exact fun hl => (h1 fun e he => hl e (hr e he)).trans (h2 (fun e he => hl e (hr e he)) hl)
  | done v h' l' =>
    intro hl
    obtain ⟨m2, s1, e1⟩ := h2 (fun e he => hl e (hr e he)) hl
    exact ⟨m2, (h1 fun e he => hl e (hr e he)).trans s1, e1⟩
  | bad n => trivial
/-- what is reached has all that was in the log -/
theorem Reach.log {m : AM} {r : ARes} (h : Reach P S m r) : match r with | .run m' => LogOk m'.log → ∀ e ∈ m.log, e ∈ m'.log | .done _ _ l => LogOk l → ∀ e ∈ m.log, e ∈ l | .bad _ => True := by
  cases r with
  | run m' => exact fun hl => star_log (h hl)
  | done v h' l =>
    intro hl e he
    obtain ⟨m1, s, e1⟩ := h hl
    have h1 := step_log (P := P) (S := S) (m := m1)
    rw [e1] at h1
    exact h1 e (star_log s e he)
  | bad n => trivial

theorem cset_eq (β : Type) (bad : β) (n : Nat) (d : Option Tmp) (v : AV) (ts : Tr AV) (k : Tr AV → β) :
    (cset β bad n d).f v ts k = match setDst n ts d v with | some t => k t | none => bad := by
  cases d with
  | none => rfl
  | some d =>
    simp only [cset, setDst]
    cases Nat.blt d n with
    | true => exact ps_eq β d d v ts k
    | false => rfl

/-- an operation that stands first is a call that is done -/
def HeadOk (ops : Array Oper) (ts : Tr AV) (rest : List Oper) : Prop := ∀ o r, rest = o :: r → guardOk ops ts o = some true ∧ kindOf o.op = .call

def RQ (P : Program) (S : Sum) (fn : FuncId) (ctl : ACtl) (n : Nat) (ops : Array Oper) (k : List AItem) (below : List AFr) (hs : HB) (m : AM) : RX → Prop
  | .fin ts h l => LogOk l → Star P S m ⟨⟨fn, ctl, n, ts, .reg ops [] :: k⟩, below, h, hs, l⟩
  | .call rest ts h l => LogOk l → Star P S m ⟨⟨fn, ctl, n, ts, .reg ops rest :: k⟩, below, h, hs, l⟩ ∧ HeadOk ops ts rest
  | .bad _ => True

section
variable {fn : FuncId} {ctl : ACtl} {n : Nat} {ops : Array Oper} {k : List AItem} {below : List AFr} {hs : HB}

theorem RQ.before {m m' : AM} {r : RX} (h : Star P S m m') (q : RQ P S fn ctl n ops k below hs m' r) : RQ P S fn ctl n ops k below hs m r := by
  cases r with
  | fin ts h' l => exact fun hl => h.trans (q hl)
  | call rest ts h' l => exact fun hl => ⟨h.trans (q hl).1, (q hl).2⟩
  | bad n => trivial

/-- an entry of the log holds, if what is reached holds -/
theorem RQ.pad {m m2 : AM} {c : Bool} {r : RX} (hm : (c, true) ∈ m2.log) (q : RQ P S fn ctl n ops k below hs m2 r) (h : c = true → RQ P S fn ctl n ops k below hs m r) : RQ P S fn ctl n ops k below hs m r := by
  cases r with
  | fin ts h' l => exact fun hl => h (hl _ (star_log (q hl) _ hm)) hl
  | call rest ts h' l => exact fun hl => h (hl _ (star_log (q hl).1 _ hm)) hl
  | bad n => trivial

theorem RQ.oCase {α : Type} {m : AM} {b : Nat} {kk : α → RX} {x : Option α} (h : ∀ v, x = some v → RQ P S fn ctl n ops k below hs m (kk v)) : RQ P S fn ctl n ops k below hs m (oCase (.bad b) kk x) := by
  cases x with
  | none => trivial
  | some v => exact h v rfl

/-- a guard -/
theorem RQ.gd {m : AM} {b : Nat} {o : Oper} {d : Tmp} {ts : Tr AV} {w : Bool} {g : Tr AV → Option AV} {T F : RX} {j : Nat} {oj : Oper}
    (hgd : o.guard = some (j, w)) (hj : ops[j]? = some oj) (hd : oj.dst = some d) (hg : ∀ t, g t = t.get d)
    (hT : guardOk ops ts o = some true → RQ P S fn ctl n ops k below hs m T) (hF : guardOk ops ts o = some false → RQ P S fn ctl n ops k below hs m F) : RQ P S fn ctl n ops k below hs m (EV.oCase (.bad b) (avGd (.bad b) T F w) (g ts)) := by
  have hG : guardOk ops ts o = match ts.get d with | some (.bool c) => some (c == w) | some (.tup _) => some false | _ => none := by
    unfold guardOk guardF
    simp only [hgd, hj, hd]
    rcases ts.get d with _ | v
    · rfl
    · cases v <;> rfl
  refine RQ.oCase fun v hv => ?_
  rw [hg] at hv
  rw [hv] at hG
  cases v with
  | bool c =>
    show RQ P S fn ctl n ops k below hs m (Bool.rec (motive := fun _ => RX) F T (c == w))
    cases hc : c == w with
    | true => exact hT (by rw [hG]; simp only [hc])
    | false => exact hF (by rw [hG]; simp only [hc])
  | tup vs => exact hF hG
  | _ => trivial

theorem RQ.cGd {o : Oper} {s : SX RX} {K : KR} {T : RF} {r : List Oper} (hs' : ∀ v ts kk, s v ts kk = match setDst n ts o.dst v with | some t => kk t | none => RX.bad 20)
    (hK : ∀ ts h l, RQ P S fn ctl n ops k below hs ⟨⟨fn, ctl, n, ts, .reg ops r :: k⟩, below, h, hs, l⟩ (K ts h l))
    (hT : ∀ ts h l, guardOk ops ts o = some true → RQ P S fn ctl n ops k below hs ⟨⟨fn, ctl, n, ts, .reg ops (o :: r) :: k⟩, below, h, hs, l⟩ (T.f ts h l)) (ts : Tr AV) (h : AH) (l : Log) :
    RQ P S fn ctl n ops k below hs ⟨⟨fn, ctl, n, ts, .reg ops (o :: r) :: k⟩, below, h, hs, l⟩ ((EV.cGd s K (cguard ops o) T).f ts h l) := by
  obtain ⟨T⟩ := T
  unfold cguard
  split
  · rename_i hg
    exact hT ts h l (by simp only [guardOk, guardF, hg])
  · rename_i j want hg
    split
    · rename_i oj hj
      split
      · rename_i d hd
        split
        rename_i g hgg
        show RQ P S fn ctl n ops k below hs _ (oG s K T g want ts h l)
        unfold oG
        refine RQ.gd hg hj hd (fun t => by rw [← pg_eq d d t, hgg]) (fun e => hT ts h l e) (fun e => ?_)
        rw [hs']
        split
        · rename_i t ht
          exact RQ.before (.one (by simp only [stepA, e, ht])) (hK t h l)
        · trivial
      · exact True.intro
    · exact True.intro

theorem told_oT (b : Nat → Bool) (s : SX RX) (K : KR) (ts : Tr AV) (l : Log) (h : AH) (d : Nat) (v : AV) (hb : hs.f fn d = some b) :
    oT b s K ts l h v = oV s K ts (told fn hs (some d) v l).2 h (told fn hs (some d) v l).1 := by
  unfold told
  simp only [hb]
  cases v <;> rfl

theorem cBB_eq (o : Oper) (s : SX RX) (K : KR) (ts : Tr AV) (l : Log) (h : AH) (v : AV) :
    (cBB (ctold fn hs o.dst)).f s K ts l h v = oV s K ts (told fn hs o.dst v l).2 h (told fn hs o.dst v l).1 := by
  unfold ctold cBB
  cases hd : o.dst with
  | none => rfl
  | some d =>
    simp only
    cases hb : hs.f fn d with
    | none => simp only [told, hb]
    | some b => exact told_oT b s K ts l h d v hb

theorem regF_reach : ∀ (rest : List Oper) (ts : Tr AV) (h : AH) (l : Log), RQ P S fn ctl n ops k below hs ⟨⟨fn, ctl, n, ts, .reg ops rest :: k⟩, below, h, hs, l⟩ ((creg P fn n hs ops rest).f ts h l)
  | [], ts, h, l => fun _ => .refl _
  | o :: r, ts, h, l => by
    have hK := regF_reach r
    show RQ P S fn ctl n ops k below hs _ ((match creg P fn n hs ops r with | ⟨K⟩ => co P fn n hs ops o r K).f ts h l)
    revert hK
    cases creg P fn n hs ops r with
    | mk K =>
      intro hK
      have hK : ∀ ts h l, RQ P S fn ctl n ops k below hs ⟨⟨fn, ctl, n, ts, .reg ops r :: k⟩, below, h, hs, l⟩ (K ts h l) := hK
      show RQ P S fn ctl n ops k below hs _ ((co P fn n hs ops o r K).f ts h l)
      unfold co
      have hs' := cset_eq RX (.bad 20) n o.dst
      revert hs'
      cases cset RX (.bad 20) n o.dst with
      | mk s =>
        intro hs'
        have hs' : ∀ v ts kk, s v ts kk = match setDst n ts o.dst v with | some t => kk t | none => RX.bad 20 := hs'
        simp only
        cases hc : isCallK (kindOf o.op) with
        | true =>
          refine RQ.cGd (T := ⟨RX.call (o :: r)⟩) hs' hK (fun ts h l hg => ?_) ts h l
          show LogOk l → Star P S _ _ ∧ HeadOk ops ts (o :: r)
          refine fun _ => ⟨.refl _, fun o2 r2 he => ?_⟩
          cases he
          refine ⟨hg, ?_⟩
          revert hc
          cases kindOf o.op <;> simp [isCallK]
        | false =>
          simp only
          cases hu : usure fn hs o with
          | some u =>
            refine RQ.cGd (T := ⟨oU s K (cSym P cget (cop P o.op) o.op u).f⟩) hs' hK (fun ts h l hg => ?_) ts h l
            refine RQ.oCase fun p hp => ?_
            obtain ⟨v, h', c⟩ := p
            show RQ P S fn ctl n ops k below hs _ (forceH h' fun h => s v ts (oK K h ((c, true) :: l)))
            rw [forceH_eq, hs']
            split
            · rename_i t ht
              have q := hK t h' ((c, true) :: l)
              refine RQ.pad (List.mem_cons_self ..) q fun hc' => ?_
              subst hc'
              have hpl := cSym_ok (P := P) (g := fun ts => ts.get) (fun o ts => cget_eq o ts) (cop_ok o.op) hp
              rw [← plainG_eq] at hpl
              have hst : stepA P S ⟨⟨fn, ctl, n, ts, .reg ops (o :: r) :: k⟩, below, h, hs, l⟩ = .run ⟨⟨fn, ctl, n, t, .reg ops r :: k⟩, below, h', hs, l⟩ := by
                simp only [stepA, hg]
                split
                · rename_i hk; rw [hk] at hc; cases hc
                · simp only [hpl, nextA, usure_told hu, ht]
              exact RQ.before (.cons hst (.pad rfl (.refl _))) q
            · trivial
          | none =>
            simp only
            have hB := cBB_eq (fn := fn) (hs := hs) o s K
            revert hB
            cases cBB (ctold fn hs o.dst) with
            | mk B =>
              intro hB
              have hB : ∀ ts l h v, B s K ts l h v = oV s K ts (told fn hs o.dst v l).2 h (told fn hs o.dst v l).1 := hB
              refine RQ.cGd hs' hK (fun ts h l hg => ?_) ts h l
              have key : ∀ v h', plainOp P ts h o.op = some (v, h') → RQ P S fn ctl n ops k below hs ⟨⟨fn, ctl, n, ts, .reg ops (o :: r) :: k⟩, below, h, hs, l⟩ (B s K ts l h' v) := by
                intro v h' hp
                rw [hB]
                unfold oV
                rw [hs']
                split
                · rename_i t ht
                  refine RQ.before (.one (b := ⟨⟨fn, ctl, n, t, .reg ops r :: k⟩, below, h', hs, (told fn hs o.dst v l).2⟩) ?_) (hK t h' _)
                  simp only [stepA, hg]
                  split
                  · rename_i hk; rw [hk] at hc; cases hc
                  · simp only [hp, nextA, ht]
                · trivial
              have ho := cop_ok (P := P) o.op
              revert ho
              cases cop P o.op with
              | slots f =>
                intro ho
                exact RQ.oCase fun v hv => key v h (ho.slots hv)
              | look f =>
                intro ho
                exact RQ.oCase fun v hv => key v h (ho.look hv)
              | eff f =>
                intro ho
                refine RQ.oCase fun p hv => ?_
                obtain ⟨v, h'⟩ := p
                show RQ P S fn ctl n ops k below hs _ (forceH h' fun h => B s K ts l h v)
                rw [forceH_eq]
                exact key v h' (ho _ _ _ hv)

theorem regX_reach (rest : List Oper) (ts : Tr AV) (h : AH) (l : Log) : RQ P S fn ctl n ops k below hs ⟨⟨fn, ctl, n, ts, .reg ops rest :: k⟩, below, h, hs, l⟩ (regX P fn n hs ops rest ts h l) := by
  have := regF_reach (P := P) (S := S) (fn := fn) (ctl := ctl) (n := n) (ops := ops) (k := k) (below := below) (hs := hs) rest ts h l
  unfold regX
  revert this
  cases creg P fn n hs ops rest
  exact fun h => h

theorem cargs_eq : ∀ (l : List Operand) (ts : Tr AV), (cargs l).f ts = allOf (ev ts) l
  | [], ts => rfl
  | x :: r, ts => by
    have h1 := cget_eq x ts
    have h2 := cargs_eq r ts
    unfold cargs
    revert h1 h2
    cases cget x with
    | mk a => cases cargs r with
      | mk g =>
        intro h1 h2
        have h1 : a ts = ev ts x := h1
        have h2 : g ts = allOf (ev ts) r := h2
        show oCase none (args2 g ts) (a ts) = _
        rw [allOf, h1]
        cases ev ts x with
        | none => rfl
        | some v =>
          show oCase none _ (g ts) = _
          rw [h2]
          cases allOf (ev ts) r <;> rfl

theorem ccall_eq {c : Call} {ts : Tr AV} {r : FuncId × List AV} (e : (ccall c).f ts = some r) : calleeA (ev ts) c = some r := by
  unfold ccall at e
  unfold calleeA
  split at e
  · rename_i fo hc
    split at e
    rename_i a g ha hg
    have hg' : g ts = allOf (ev ts) c.args.toList := by rw [← cargs_eq, hg]
    have ha' : a ts = ev ts fo := by unfold ev; rw [← cget_eq, ha]
    simp only [ha', hg'] at e
    simp only [hc]
    split at e
    · rename_i q first cap hx
      split at e
      · rename_i as has
        simp only [hx, has]
        exact e
      · cases e
    · cases e
  · cases e

theorem has_cons {r : ARes} {e : Bool × Bool} {l : Log} (hr : r.has (e :: l)) : r.has l := by
  cases r with
  | run m' => exact fun x hx => hr x (List.mem_cons_of_mem _ hx)
  | done v h' l' => exact fun x hx => hr x (List.mem_cons_of_mem _ hx)
  | bad n => trivial
theorem nextA_has {m : AM} {ops : Array Oper} {rest : List Oper} {k : List AItem} {o : Oper} {v : AV} {h : AH} : (nextA m ops rest k o v h).has m.log := by
  unfold nextA
  split
  rename_i ht
  split
  · exact told_log ht
  · trivial
theorem callR_reach {T : TSum} {ts : Tr AV} {rest : List Oper} {h : AH} {l : Log} (hg : HeadOk ops ts rest) :
    Reach P (cutT T) ⟨⟨fn, ctl, n, ts, .reg ops rest :: k⟩, below, h, hs, l⟩ (callR P T fn ctl n ts ops rest k below h hs l) := by
  unfold callR
  split
  · rename_i o r
    obtain ⟨g1, g2⟩ := hg o r rfl
    split
    · rename_i c hc
      split
      rename_i g hcc
      split
      · rename_i f args hga
        have hca := ccall_eq (c := c) (ts := ts) (r := (f, args)) (by rw [hcc]; exact hga)
        have hc' : kindOf (Op.call c) = .call := hc ▸ g2
        unfold enterX
        split
        · rename_i v gg hT
          apply Reach.of
          simp only [stepA, g1, g2, hc, hc', hca, cutT_none hT]
        · rename_i v gg c2 hT
          refine Reach.padc nextA_has fun h2 => ?_
          subst h2
          apply Reach.of
          simp only [padM, stepA, g1, g2, hc, hc', hca, cutT_true hT]
        · rename_i hT
          apply Reach.of
          simp only [stepA, g1, g2, hc, hc', hca, cutT_no hT]
          cases enterA P f args <;> rfl
      · exact Reach.step
    · trivial
  · trivial

theorem callR_has {T : TSum} {ts : Tr AV} {rest : List Oper} {h : AH} {l : Log} : (callR P T fn ctl n ts ops rest k below h hs l).has l := by
  unfold callR
  split
  · split
    · split
      split
      · unfold enterX
        split
        · exact nextA_has
        · exact has_cons nextA_has
        · split
          · exact fun _ h => h
          · trivial
      · exact step_log
    · trivial
  · trivial

theorem reg1_reach {T : TSum} {rest : List Oper} {ts : Tr AV} {h : AH} {l : Log} :
    Reach P (cutT T) ⟨⟨fn, ctl, n, ts, .reg ops rest :: k⟩, below, h, hs, l⟩ (reg1 ⟨P, T, fn, ctl, n, below, hs⟩ ops rest k ts h l) := by
  have ih := regX_reach (P := P) (S := cutT T) (fn := fn) (ctl := ctl) (n := n) (ops := ops) (k := k) (below := below) (hs := hs) rest ts h l
  show Reach P (cutT T) _ (reg2 ⟨P, T, fn, ctl, n, below, hs⟩ ops k (regX P fn n hs ops rest ts h l))
  revert ih
  cases regX P fn n hs ops rest ts h l with
  | fin ts h l =>
    intro ih
    have ih : LogOk l → Star P (cutT T) _ _ := ih
    exact fun hl => (ih hl).trans (.one (by simp only [stepA]))
  | call rest ts h l =>
    intro ih
    show Reach P (cutT T) _ (fz (callR P T fn ctl n ts ops rest k below h hs l))
    rw [fz_eq]
    have ih : LogOk l → Star P (cutT T) _ _ ∧ HeadOk ops ts rest := ih
    exact Reach.cond callR_has (fun hl => (ih hl).1) fun hl => callR_reach (ih hl).2
  | bad n => exact fun _ => trivial
end
end
end Go.EV
