/- Own text of this claim: an abstract machine over the given program form, and what follows from it. No condition. -/
import Derived.Test.YtekijepgmmemiaaGreatMC
set_option linter.unusedVariables false
set_option linter.unusedSimpArgs false
set_option maxHeartbeats 1000000
namespace Go.Gar
open Go Go.EV Go.EV.Srt
noncomputable section
/-! the order of spans that are over -/
def sel (S : Nat → Span) (E : Nat → Event) (m k : Nat) : Bool := decide (0 < (ansL (S k) E m).length) && ((S k).stop != 0)
def stF (S : Nat → Span) (E : Nat → Event) (m j k : Nat) : Int := bif decide (k < j) && sel S E m k then stOf (S k) E m else 0
def fil (p : Nat → Bool) : Nat → List Nat
  | 0 => []
  | j + 1 => fil p j ++ (bif p j then [j] else [])
def lx (L : List Nat) (k : Nat) : Int := ((L[k]?.getD 0 : Nat) : Int)
theorem fil_len {p : Nat → Bool} : ∀ {j}, (fil p j).length ≤ j
  | 0 => Nat.le_refl _
  | j + 1 => by
    have := fil_len (p := p) (j := j)
    simp only [fil, List.length_append]
    cases p j <;> simp <;> omega
theorem fil_mem {p : Nat → Bool} {a : Nat} : ∀ {j}, a ∈ fil p j ↔ a < j ∧ p a = true
  | 0 => by simp [fil]
  | j + 1 => by
    simp only [fil, List.mem_append, fil_mem (j := j)]
    cases hp : p j with
    | true =>
      simp only [cond_true, List.mem_singleton]
      constructor
      · rintro (h | rfl)
        · exact ⟨by omega, h.2⟩
        · exact ⟨by omega, hp⟩
      · intro h
        by_cases e : a = j
        · exact .inr e
        · exact .inl ⟨by omega, h.2⟩
    | false =>
      simp only [cond_false, List.not_mem_nil, or_false]
      constructor
      · intro h; exact ⟨by omega, h.2⟩
      · intro h
        refine ⟨?_, h.2⟩
        by_cases e : a = j
        · subst e; rw [hp] at h; cases h.2
        · omega
theorem lx_at {L : List Nat} {k : Nat} (h : k < L.length) : lx L k = (L[k] : Nat) := by
  unfold lx
  rw [List.getElem?_eq_getElem h]; rfl
theorem fil_inc {p : Nat → Bool} : ∀ {j}, Inc (lx (fil p j)) 0 (fil p j).length
  | 0 => fun i k _ _ h => by simp [fil] at h
  | j + 1 => by
    have ih := fil_inc (p := p) (j := j)
    cases hp : p j with
    | false => simp only [fil, hp, cond_false, List.append_nil]; exact ih
    | true =>
      simp only [fil, hp, cond_true]
      intro a b _ h1 h2
      simp only [List.length_append, List.length_cons, List.length_nil] at h2
      rw [lx_at (by simp; omega), lx_at (by simp; omega)]
      rcases Nat.lt_or_ge b (fil p j).length with hb | hb
      · rw [List.getElem_append_left (by omega), List.getElem_append_left hb]
        have := ih a b (by omega) h1 hb
        rw [lx_at (by omega), lx_at hb] at this
        exact this
      · rw [List.getElem_append_left (by omega), List.getElem_append_right hb]
        have hm := (fil_mem (p := p) (j := j)).mp (List.getElem_mem (show a < (fil p j).length by omega))
        simp
        omega
theorem lx_rng {p : Nat → Bool} {n : Nat} : Rng (fil p n).length (lx (fil p n)) n := fun k hk => by
  rw [lx_at hk]
  have := (fil_mem (p := p) (j := n)).mp (List.getElem_mem hk)
  omega
theorem lx_snoc {L : List Nat} {j : Nat} : ∀ k, k < L.length + 1 → catE L.length (fun i => rI (lx L) (addZ 0 i)) (chunkE 1 [i (j : Int)]) k = rI (lx (L ++ [j])) k := by
  intro k hk
  unfold catE rI
  rcases Nat.lt_or_ge k L.length with h | h
  · rw [bltT h]
    show [i (lx L k)] = _
    rw [lx_at h, lx_at (by simp; omega), List.getElem_append_left h]
  · obtain rfl : k = L.length := by omega
    rw [bltF (by omega), lx_at (by simp), Nat.sub_self]
    simp [chunkE]
def U16 : USum := addM (addV noU 42 F42) 123 (sortF cond123 res123 ar1)
theorem G16 : GoodU Pr U16 := (G0.addV c42).addM c123
def y16 : Hy := hy [(16, [16, 25, 29])] [(16, [(2, [1, 3, 4, 13, 14, 15])])] [] [(16, [11])]
section
variable (n m : Nat) (S : Nat → Span) (E : Nat → Event) (fl fm : Bool) (c : Nat) (x st : Nat → List AV)
def S16 (j : Int) : AM := hd 16 47 [(1, .ptr 8 0), (3, .es 9 0 c none 1), (4, .ptr 10 0), (13, lsS n S fl), (14, i n), (15, i j)] (tdo Pr 16 0) [.row 2 [lsS n S fl, lsE m E fm] .nil, .els 1 c x, .row 1 [.nilsl] (.node (some (.es 11 0 n (some n) 1)) .nil .nil), .els 1 n st]
def S16p (j : Int) : AM := hd 16 47 [(1, .ptr 8 0), (3, .es 11 0 c none 1), (4, .ptr 9 0), (13, lsS n S fl), (14, i n), (15, i j)] (tdo Pr 16 0) [.row 2 [lsS n S fl, lsE m E fm] .nil, .row 1 [.nilsl] (.node (some (.es 10 0 n (some n) 1)) .nil .nil), .els 1 n st, .els 1 c x]
def S16o : AM := hd 16 47 [(1, .ptr 8 0), (3, .nilsl), (4, .ptr 9 0), (13, lsS n S fl), (14, i n), (15, i 0)] (tdo Pr 16 0) [.row 2 [lsS n S fl, lsE m E fm] .nil, .row 1 [.nilsl] (.node (some (.es 10 0 n (some n) 1)) .nil .nil), .els 1 n (fun _ => [i 0])]
theorem e16 : symF Pr U16 y16 80 (stt Pr 16 [.agg [lsS n S fl, lsE m E fm]]) =
  (.cki (0 ≤ (n : Int) ∧ (n : Int) ≤ (n : Int) ∧ 8 * n ≤ 2 ^ 47 ∧ n ≤ 2 ^ 47)
  (.ck (FreeE 1 n (fun _ => [i 0]) ∧ True)
  (.leaf (.to (S16o n m S E fl fm))))) := by kernel_rfl
def A16 (x st : Nat → Int) (j : Nat) : T Lv := .ck (FreeE 1 c (rI x) ∧ FreeE 1 n (rI st) ∧ True) (.leaf (.to (S16 n m S E fl fm c (rI x) (rI st) (W ((j : Int) + 1)))))
def T16 (x st : Nat → Int) (j : Nat) : T Lv :=
  (.br (decide ((j : Int) < (n : Int)))
   (.cki (0 ≤ (j : Int) ∧ (j : Int) < (n : Int))
   (.ck ((okE m fun k => eEvent (E k)) ∧ eSpan (S j) = eSpan (dSpan (eSpan (S j))))
   (.br (decide (((ansL (S j) E m).length : Int) > 0))
    (.br ((S j).stop != 0)
     (.cki (0 ≤ (0 : Int) ∧ 0 < ((ansL (S j) E m).length : Int))
     (.cki (0 ≤ (j : Int) ∧ (j : Int) < (n : Int))
     (.cki (8 * (c + 1 + 1000) * 4 ≤ 2 ^ 47)
     (.ck (FreeE 1 (c + 1) (catE c (fun i => rI x (addZ 0 i)) (chunkE 1 [i (j : Int)])) ∧ FreeE 1 n (updE (rI st) j [i ((ansL (S j) E m)[0]?.getD default).2]) ∧ True)
     (.leaf (.to (S16 n m S E fl fm (c + 1) (catE c (fun i => rI x (addZ 0 i)) (chunkE 1 [i (j : Int)])) (updE (rI st) j [i ((ansL (S j) E m)[0]?.getD default).2]) (W ((j : Int) + 1)))))))))
     (A16 n m S E fl fm c x st j))
    (A16 n m S E fl fm c x st j))))
   (.ck (FreeE 1 c (rI x) ∧ FreeE 1 n (rI st) ∧ True)
   (.ck (n = n ∧ n = n ∧ IsE c (rI x) eI dI ∧ IsE n (rI st) eI dI ∧ cond123 c c x n st [(c : Int)])
   (.cki (allB (fun i => idps (fun x => false) (rI (res123 x st [(c : Int)]) (addZ 0 i))) c = true)
   (.leaf (.fin (.ls c (rI (stab (KK st) x c)) 1 false)))))))
theorem t16 (x st : Nat → Int) (j : Nat) : symF Pr U16 y16 170 (S16 n m S E fl fm c (rI x) (rI st) j) = T16 n m S E fl fm c x st j := by kernel_rfl
theorem t16p (x st : Nat → Int) (j : Nat) : symF Pr U16 y16 170 (S16p n m S E fl fm c (rI x) (rI st) j) = T16 n m S E fl fm c x st j := by kernel_rfl
end
section
variable {n m : Nat} {S : Nat → Span} {E : Nat → Event} {fl fm : Bool}
def ordV (n : Nat) (S : Nat → Span) (m : Nat) (E : Nat → Event) : AV := .ls (fil (sel S E m) n).length (rI (stab (KK (stF S E m n)) (lx (fil (sel S E m) n)) (fil (sel S E m) n).length)) 1 false
def okE' (m : Nat) (E : Nat → Event) : Prop := m ≤ 1000 ∧ ∀ k, k < m → (E k).replies.n ≤ 1000
theorem okE_of (h : okE' m E) : okE m fun k => eEvent (E k) := ⟨h.1, isE_of d_eEvent, h.2⟩
theorem w16 (hn : n ≤ 40) (hE : okE' m E) {j : Nat} (hj : j ≤ n) (ih : j < n → EndsF Pr (S16 n m S E fl fm (fil (sel S E m) (j + 1)).length (rI (lx (fil (sel S E m) (j + 1)))) (rI (stF S E m (j + 1))) ((j + 1 : Nat) : Int)) (· = ordV n S m E)) :
    (T16 n m S E fl fm (fil (sel S E m) j).length (lx (fil (sel S E m) j)) (stF S E m j) j).Wp (EndLv Pr (· = ordV n S m E)) := by
  have hc : (fil (sel S E m) j).length ≤ 40 := Nat.le_trans fil_len (by omega)
  have hA : j < n → sel S E m j = false → (A16 n m S E fl fm (fil (sel S E m) j).length (lx (fil (sel S E m) j)) (stF S E m j) j).Wp (EndLv Pr (· = ordV n S m E)) := by
    intro hjn hs
    refine ⟨⟨freeI _ _, freeI _ _, trivial⟩, ?_⟩
    have ih := ih hjn
    rw [show fil (sel S E m) (j + 1) = fil (sel S E m) j by simp only [fil, hs, cond_false, List.append_nil]] at ih
    show EndsF Pr (S16 n m S E fl fm _ _ _ (W ((j : Int) + 1))) _
    rw [W_succ hjn (by omega)]
    refine EndsF.norm (by kernel_rfl) SlEq.rfl (.same _ (.same _ (.same _ (.els (by omega) (fun k _ => ?_) .nil)))) ih
    unfold rI stF
    by_cases e : k = j
    · subst e; rw [hs]; simp
    · rw [show decide (k < j + 1) = decide (k < j) by by_cases h : k < j <;> simp [h] <;> omega]
  refine ⟨fun h => ⟨by simp at h; omega, ⟨okE_of hE, rfl⟩, fun h1 => ⟨fun h2 => ?_, fun h2 => hA (by simp at h; omega) (by unfold sel; rw [h2]; simp)⟩, fun h1 => hA (by simp at h; omega) (by unfold sel; simp at h1 ⊢; intro h; rw [h1] at h; simp at h)⟩, fun h => ?_⟩
  · have hjn : j < n := by simp at h; omega
    have hs : sel S E m j = true := by
      unfold sel
      rw [h2]
      simp at h1 ⊢
      exact h1
    have hv : ((ansL (S j) E m)[0]?.getD default).2 = stOf (S j) E m := by
      unfold stOf
      simp at h1
      cases hL : ansL (S j) E m with
      | nil => rw [hL] at h1; simp at h1
      | cons a l => rfl
    refine ⟨⟨Int.le_refl _, of_decide_eq_true h1⟩, by omega, by omega, ⟨?_, ?_, trivial⟩, ?_⟩
    · exact FreeE.of (by omega) fun q hq => by rw [lx_snoc q hq]; exact FreeL.of rfl
    · rw [updE_i]; exact freeI _ _
    · have ih := ih hjn
      rw [show fil (sel S E m) (j + 1) = fil (sel S E m) j ++ [j] by simp only [fil, hs, cond_true], List.length_append] at ih
      show EndsF Pr (S16 n m S E fl fm _ _ _ (W ((j : Int) + 1))) _
      rw [W_succ hjn (by omega), hv, updE_i]
      refine EndsF.norm (by kernel_rfl) SlEq.rfl (.same _ (.els (by omega) lx_snoc (.same _ (.els (by omega) (fun k _ => ?_) .nil)))) ih
      unfold rI
      show [i (bif Nat.beq k j then stOf (S j) E m else stF S E m j k)] = [i (stF S E m (j + 1) k)]
      unfold stF
      by_cases e : k = j
      · subst e; rw [hs]; simp
      · rw [show decide (k < j + 1) = decide (k < j) by by_cases h : k < j <;> simp [h] <;> omega, show Nat.beq k j = false from by cases h : Nat.beq k j with | false => rfl | true => exact absurd (Tr.beq_true.mp h) e]
        rfl
  · have hjn : j = n := by simp at h; omega
    subst hjn
    exact ⟨⟨freeI _ _, freeI _ _, trivial⟩, ⟨rfl, rfl, isI _ _, isI _ _, rfl, hc, lx_rng⟩, allB_of fun _ _ => rfl, rfl⟩
theorem l16 (hn : n ≤ 40) (hE : okE' m E) : ∀ d j, j + d = n → EndsF Pr (S16 n m S E fl fm (fil (sel S E m) j).length (rI (lx (fil (sel S E m) j))) (rI (stF S E m j)) (j : Int)) (· = ordV n S m E)
  | 0, j, hd => endsF_of G16 (t16 n m S E fl fm _ _ _ j) (w16 hn hE (by omega) fun h => by omega)
  | d + 1, j, hd => endsF_of G16 (t16 n m S E fl fm _ _ _ j) (w16 hn hE (by omega) fun _ => l16 hn hE d (j + 1) (by omega))
theorem c16' (hn : n ≤ 40) (hE : okE' m E) : FnCall Pr 16 [.agg [lsS n S fl, lsE m E fm]] (ordV n S m E) := by
  refine fn_of_fin G16 (by kernel_rfl) (e16 n m S E fl fm) ⟨by omega, ⟨freeI n (fun _ => 0), trivial⟩, ?_⟩
  refine EndsF.more (by kernel_rfl) 1 (rI (lx [])) ?_
  refine EndsF.norm (by kernel_rfl) (.same _ (.like (v' := .es 11 0 0 none 1) Like.nil_es SlEq.rfl)) BsEq.rfl ?_
  refine endsF_of (m := S16p n m S E fl fm 0 (rI (lx [])) (fun _ => [i 0]) 0) G16 (show _ = T16 n m S E fl fm 0 (lx []) (fun _ => 0) 0 from t16p n m S E fl fm 0 (lx []) (fun _ => 0) 0) ?_
  have h0 : (fun _ => (0 : Int)) = stF S E m 0 := by funext k; unfold stF; simp
  rw [h0]
  exact w16 (j := 0) hn hE (by omega) fun h => l16 hn hE (n - 1) 1 (by omega)
end
def F16 : List AV → Option (T AV)
  | [.agg [.ls n f 15 fl, .ls m g 12 fm]] => some (.ck (n ≤ 40 ∧ IsE n f eSpan dSpan ∧ okE m g) (.leaf (ordV n (fun k => dSpan (f k)) m (fun k => dEvent (g k)))))
  | _ => none
theorem c16 : FnSpec Pr 16 F16 := by
  intro a t h
  unfold F16 at h
  split at h
  · rename_i n f fl m g fm
    simp only [Option.some.injEq] at h; subst h
    rintro v ⟨⟨hn, hf, hm, hg, hr⟩, hs⟩
    have hs : _ = v := hs
    subst hs
    exact FnCall_args (likes_agg_ls hf hg) (c16' hn ⟨hm, hr⟩)
  · cases h
end
end Go.Gar

set_option linter.unusedVariables false
set_option linter.unusedSimpArgs false
set_option maxHeartbeats 1000000
namespace Go.Gar
open Go Go.EV Go.EV.Srt
noncomputable section
/-! the document's order: by insertion -/
def KR (S : Nat → Span) (E : Nat → Event) (m : Nat) (v : Int) : Int := stOf (S v.toNat) E m
def pos (K : Int → Int) (x : Nat → Int) (v : Int) : Nat → Nat
  | 0 => 0
  | a + 1 => if K (x a) > v then pos K x v a else a + 1
def insF (x : Nat → Int) (p : Nat) (v : Int) (k : Nat) : Int := if k < p then x k else if k = p then v else x (k - 1)
def selR (S : Nat → Span) (E : Nat → Event) (m j : Nat) : Bool := !((S j).stop == 0) && !(stOf (S j) E m == 0)
def xR (S : Nat → Span) (E : Nat → Event) (m : Nat) : Nat → Nat → Int
  | 0 => lx []
  | j + 1 => bif selR S E m j then insF (xR S E m j) (pos (KR S E m) (xR S E m j) (stOf (S j) E m) (fil (selR S E m) j).length) (j : Int) else xR S E m j
theorem pos_le {K : Int → Int} {x : Nat → Int} {v : Int} : ∀ {a}, pos K x v a ≤ a
  | 0 => Nat.le_refl _
  | a + 1 => by
    unfold pos
    split
    · exact Nat.le_trans pos_le (Nat.le_succ a)
    · exact Nat.le_refl _
theorem insF_rng {c n p : Nat} {x : Nat → Int} {v : Nat} (h : Rng c x n) (hp : p ≤ c) (hv : v < n) : Rng (c + 1) (insF x p (v : Int)) n := by
  intro k hk
  unfold insF
  split
  · exact h k (by omega)
  · split
    · omega
    · exact h (k - 1) (by omega)
theorem xR_rng {S : Nat → Span} {E : Nat → Event} {m n : Nat} : ∀ {j}, j ≤ n → Rng (fil (selR S E m) j).length (xR S E m j) n
  | 0, _ => fun k hk => by simp [fil] at hk
  | j + 1, h => by
    have ih := xR_rng (S := S) (E := E) (m := m) (n := n) (j := j) (by omega)
    unfold xR
    cases hs : selR S E m j with
    | true => simp only [fil, hs, cond_true, List.length_append, List.length_cons, List.length_nil]; exact insF_rng ih pos_le (by omega)
    | false => simp only [fil, hs, cond_false, List.append_nil]; exact ih
def U17 : USum := addV noU 46 F46
theorem G17 : GoodU Pr U17 := G0.addV c46
def y17 : Hy := hy [(17, [11, 27, 30, 35, 49])] [(17, [(2, [1, 3, 4]), (7, [1, 3, 4, 5, 6])])] [] []
section
variable (n m : Nat) (S : Nat → Span) (E : Nat → Event) (fl fm : Bool) (c : Nat) (x : Nat → Int)
def S17a (c : Nat) (x : Nat → List AV) (j : Int) : AM := hd 17 66 [(1, .ptr 8 0), (3, .es 9 0 c none 1), (4, i j)] (tdo Pr 17 0) [.row 2 [lsS n S fl, lsE m E fm] .nil, .els 1 c x]
def S17b (j : Nat) (v a : Int) : AM := hd 17 66 [(1, .ptr 8 0), (3, .es 9 0 c none 1), (4, i j), (5, i v), (6, i a)] (tdo Pr 17 1) [.row 2 [lsS n S fl, lsE m E fm] .nil, .els 1 c (rI x)]
def S17o : AM := hd 17 66 [(1, .ptr 8 0), (3, .nilsl), (4, i 0)] (tdo Pr 17 0) [.row 2 [lsS n S fl, lsE m E fm] .nil]
theorem e17 : symF Pr U17 y17 70 (stt Pr 17 [.agg [lsS n S fl, lsE m E fm]]) = .ck True (.leaf (.to (S17o n m S E fl fm))) := by kernel_rfl
def A17a (j : Nat) : T Lv := .ck (FreeE 1 c (rI x) ∧ True) (.leaf (.to (S17a n m S E fl fm c (rI x) (W ((j : Int) + 1)))))
def CE : Prop := IsE n (fun k => eSpan (S k)) eSpan dSpan ∧ (okE m fun k => eEvent (E k))
theorem t17a (j : Nat) : symF Pr U17 y17 140 (S17a n m S E fl fm c (rI x) j) =
  (.br (decide ((j : Int) < (n : Int)))
   (.cki (0 ≤ (j : Int) ∧ (j : Int) < (n : Int))
   (.ck (IsE n (fun k => eSpan (S k)) eSpan dSpan ∧ (okE m fun k => eEvent (E k)) ∧ eSpan (S j) = eSpan (dSpan (eSpan (S j))))
   (.cki (0 ≤ (j : Int) ∧ (j : Int) < (n : Int))
   (.br ((S j).stop == 0)
    (A17a n m S E fl fm c x j)
    (.br (stOf (S j) E m == 0)
     (A17a n m S E fl fm c x j)
     (.ck (FreeE 1 c (rI x) ∧ True)
     (.leaf (.to (S17b n m S E fl fm c x j (stOf (S j) E m) c)))))))))
   (.cki (allB (fun i => idps (fun x => false) (rI x (addZ 0 i))) c = true)
   (.leaf (.fin (.ls c (rI x) 1 false))))) := by kernel_rfl
def XI (a j : Nat) : Nat → List AV := catE (a + 1) (fun q => catE a (fun q => rI x (addZ (addZ 0 0) (addZ 0 q))) (chunkE 1 [i (j : Int)]) (addZ 0 q)) fun q => rI x (addZ (addZ 0 a) q)
def A17b (a j : Nat) : T Lv :=
  (.cki (0 ≤ (a : Int) ∧ (a : Int) ≤ (c : Int))
  (.cki (0 ≤ (a : Int) ∧ (a : Int) ≤ (c : Int))
  (.cki (8 * (0 + a + 1000) * 4 ≤ 2 ^ 47)
  (.cki ([i (j : Int)] = [i (j : Int)])
  (.cki (8 * (a + 1 + 1000) * 4 ≤ 2 ^ 47)
  (.cki (8 * (a + 1 + (c - a) + 1000) * 4 ≤ 2 ^ 47)
  (.ck (FreeE 1 (a + 1 + (c - a)) (XI x a j) ∧ True)
  (.leaf (.to (S17a n m S E fl fm (a + 1 + (c - a)) (XI x a j) (W ((j : Int) + 1))))))))))))
theorem t17b (j : Nat) (v : Int) (a : Nat) : symF Pr U17 y17 250 (S17b n m S E fl fm c x j v a) =
  (.br (decide ((a : Int) > 0))
   (.cki (0 ≤ W ((a : Int) - 1) ∧ W ((a : Int) - 1) < (c : Int))
   (.cki (0 ≤ x (W ((a : Int) - 1)).toNat ∧ x (W ((a : Int) - 1)).toNat < (n : Int))
   (.ck (IsE n (fun k => eSpan (S k)) eSpan dSpan ∧ (okE m fun k => eEvent (E k)) ∧ eSpan (S (x (W ((a : Int) - 1)).toNat).toNat) = eSpan (dSpan (eSpan (S (x (W ((a : Int) - 1)).toNat).toNat))))
   (.br (decide (stOf (S (x (W ((a : Int) - 1)).toNat).toNat) E m > v))
    (.ck (FreeE 1 c (rI x) ∧ True)
    (.leaf (.to (S17b n m S E fl fm c x j v (W ((a : Int) - 1))))))
    (A17b n m S E fl fm c x a j)))))
   (A17b n m S E fl fm c x a j)) := by kernel_rfl
end
theorem XI_ins {x : Nat → Int} {a j : Nat} : ∀ k, XI x a j k = rI (insF x a (j : Int)) k := by
  intro k
  unfold XI catE rI insF
  by_cases h1 : k < a
  · rw [bltT (show k < a + 1 by omega), if_pos h1]
    show (bif Nat.blt k a then [i (x k)] else _) = _
    rw [bltT h1]; rfl
  · by_cases h2 : k = a
    · subst h2
      rw [bltT (by omega), if_neg h1, if_pos rfl]
      show (bif Nat.blt k k then [i (x k)] else chunkE 1 [i (j : Int)] (k - k)) = _
      rw [bltF (by omega), Nat.sub_self]; rfl
    · rw [bltF (by omega), if_neg h1, if_neg h2]
      show [i (x (addZ a (k - (a + 1))))] = _
      rw [addZ_eq]
      congr 3; omega
section
variable {n m : Nat} {S : Nat → Span} {E : Nat → Event} {fl fm : Bool}
def ordR (n : Nat) (S : Nat → Span) (m : Nat) (E : Nat → Event) : AV := .ls (fil (selR S E m) n).length (rI (xR S E m n)) 1 false
theorem l17b {Q : AV → Prop} {c j : Nat} {x : Nat → Int} {v : Int} (hn : n ≤ 40) (hE : okE' m E) (hc : c ≤ 40) (hj : j < n) (hr : Rng c x n)
    (hQ : EndsF Pr (S17a n m S E fl fm (c + 1) (rI (insF x (pos (KR S E m) x v c) (j : Int))) ((j + 1 : Nat) : Int)) Q) : ∀ a, a ≤ c → pos (KR S E m) x v a = pos (KR S E m) x v c → EndsF Pr (S17b n m S E fl fm c x j v (a : Int)) Q := by
  have hA : ∀ a, a ≤ c → a = pos (KR S E m) x v c → (A17b n m S E fl fm c x a j).Wp (EndLv Pr Q) := by
    intro a ha hp
    have hcc : a + 1 + (c - a) = c + 1 := by omega
    unfold A17b
    rw [hcc]
    refine ⟨by omega, by omega, by omega, rfl, by omega, by omega, ⟨?_, trivial⟩, ?_⟩
    · exact FreeE.of (by omega) fun q hq => by rw [XI_ins q]; exact FreeL.of rfl
    · show EndsF Pr (S17a n m S E fl fm (c + 1) (XI x a j) (W ((j : Int) + 1))) Q
      rw [W_succ hj (by omega)]
      rw [← hp] at hQ
      exact EndsF.norm (by kernel_rfl) SlEq.rfl (.same _ (.els (by omega) (fun k _ => XI_ins k) .nil)) hQ
  intro a
  induction a with
  | zero => exact fun ha hp => endsF_of G17 (t17b n m S E fl fm c x j v 0) ⟨fun h => by simp at h, fun _ => hA 0 ha hp⟩
  | succ a ih =>
    intro ha hp
    have hW : W (((a + 1 : Nat) : Int) - 1) = (a : Int) := W_pred (n := c) ha (by omega)
    have hx := hr a (by omega)
    refine endsF_of G17 (t17b n m S E fl fm c x j v (a + 1)) ?_
    rw [hW, Int.toNat_natCast]
    refine ⟨fun _ => ⟨by omega, hx, ⟨isE_of d_eSpan, okE_of hE, rfl⟩, fun h => ⟨⟨freeI _ _, trivial⟩, ih (by omega) ?_⟩, fun h => hA (a + 1) ha ?_⟩, fun h => by simp at h⟩
    · rw [← hp]
      show _ = (if KR S E m (x a) > v then _ else _)
      have hk : KR S E m (x a) > v := of_decide_eq_true h
      rw [if_pos hk]
    · rw [← hp]
      show _ = (if KR S E m (x a) > v then _ else _)
      have hk : ¬ KR S E m (x a) > v := of_decide_eq_false h
      rw [if_neg hk]
theorem l17a (hn : n ≤ 40) (hE : okE' m E) : ∀ d j, j + d = n → EndsF Pr (S17a n m S E fl fm (fil (selR S E m) j).length (rI (xR S E m j)) (j : Int)) (· = ordR n S m E)
  | 0, j, hd => by
    obtain rfl : j = n := by omega
    exact endsF_of G17 (t17a j m S E fl fm _ _ j) ⟨fun h => by simp at h, fun _ => ⟨allB_of fun _ _ => rfl, rfl⟩⟩
  | d + 1, j, hd => by
    have ih := l17a hn hE d (j + 1) (by omega)
    have hc : (fil (selR S E m) j).length ≤ 40 := Nat.le_trans fil_len (by omega)
    have hA : selR S E m j = false → (A17a n m S E fl fm (fil (selR S E m) j).length (xR S E m j) j).Wp (EndLv Pr (· = ordR n S m E)) := by
      intro hs
      refine ⟨⟨freeI _ _, trivial⟩, ?_⟩
      show EndsF Pr (S17a n m S E fl fm _ _ (W ((j : Int) + 1))) _
      rw [W_succ (n := n) (by omega) (by omega)]
      rw [show fil (selR S E m) (j + 1) = fil (selR S E m) j by simp only [fil, hs, cond_false, List.append_nil], show xR S E m (j + 1) = xR S E m j by simp only [xR, hs, cond_false]] at ih
      exact ih
    refine endsF_of G17 (t17a n m S E fl fm _ _ j) ⟨fun h => ⟨by omega, ⟨isE_of d_eSpan, okE_of hE, rfl⟩, by omega, fun h1 => hA (by unfold selR; rw [h1]; rfl), fun h1 => ⟨fun h2 => hA (by unfold selR; rw [h2]; simp), fun h2 => ⟨⟨freeI _ _, trivial⟩, ?_⟩⟩⟩, fun h => by simp at h; omega⟩
    have hs : selR S E m j = true := by unfold selR; rw [h1, h2]; rfl
    refine l17b hn hE hc (by omega) (xR_rng (by omega)) ?_ _ (Nat.le_refl _) rfl
    rw [show fil (selR S E m) (j + 1) = fil (selR S E m) j ++ [j] by simp only [fil, hs, cond_true], List.length_append, show xR S E m (j + 1) = insF (xR S E m j) (pos (KR S E m) (xR S E m j) (stOf (S j) E m) (fil (selR S E m) j).length) (j : Int) by simp only [xR, hs, cond_true]] at ih
    exact ih
theorem c17' (hn : n ≤ 40) (hE : okE' m E) : FnCall Pr 17 [.agg [lsS n S fl, lsE m E fm]] (ordR n S m E) := by
  refine fn_of_fin G17 (by kernel_rfl) (e17 n m S E fl fm) ⟨trivial, ?_⟩
  refine EndsF.more (by kernel_rfl) 1 (rI (lx [])) ?_
  exact EndsF.norm (by kernel_rfl) (.same _ (.like Like.nil_es SlEq.rfl)) BsEq.rfl (l17a hn hE n 0 (by omega))
end
def F17 : List AV → Option (T AV)
  | [.agg [.ls n f 15 fl, .ls m g 12 fm]] => some (.ck (n ≤ 40 ∧ IsE n f eSpan dSpan ∧ okE m g) (.leaf (ordR n (fun k => dSpan (f k)) m (fun k => dEvent (g k)))))
  | _ => none
theorem c17 : FnSpec Pr 17 F17 := by
  intro a t h
  unfold F17 at h
  split at h
  · rename_i n f fl m g fm
    simp only [Option.some.injEq] at h; subst h
    rintro v ⟨⟨hn, hf, hm, hg, hr⟩, hs⟩
    have hs : _ = v := hs
    subst hs
    exact FnCall_args (likes_agg_ls hf hg) (c17' hn ⟨hm, hr⟩)
  · cases h
end
end Go.Gar

set_option linter.unusedVariables false
set_option linter.unusedSimpArgs false
set_option maxHeartbeats 1000000
namespace Go.Gar
open Go Go.EV Go.EV.Srt
noncomputable section
/-! one behind the other -/
def aheadB (a b : Span) : Bool := a.stop != 0 && decide (a.stop < b.start)
def T29 (a b : Span) : T Lv := .br (a.stop != 0) (.leaf (.fin (.bool (decide (a.stop < b.start))))) (.leaf (.fin (.bool false)))
theorem t29 (a b : Span) : symF Pr noU (hy [(29, [7])] [] [] []) 100 (stt Pr 29 [.agg (eSpan a), .agg (eSpan b)]) = T29 a b := by kernel_rfl
theorem t49 (a b : Span) : symF Pr noU (hy [(49, [7])] [] [] []) 100 (stt Pr 49 [.agg (eSpan a), .agg (eSpan b)]) = T29 a b := by kernel_rfl
theorem w29 (a b : Span) : (T29 a b).Wp (EndLv Pr (· = .bool (aheadB a b))) := by
  refine ⟨fun h => ?_, fun h => ?_⟩
  · show AV.bool _ = _; unfold aheadB; rw [h]; rfl
  · show AV.bool _ = _; unfold aheadB; rw [h]; rfl
def F29 : List AV → Option (T AV)
  | [.agg a, .agg b] => some (.ck (a = eSpan (dSpan a) ∧ b = eSpan (dSpan b)) (.leaf (.bool (aheadB (dSpan a) (dSpan b)))))
  | _ => none
theorem ahead_spec {g : FuncId} (h : ∀ a b, FnCall Pr g [.agg (eSpan a), .agg (eSpan b)] (.bool (aheadB a b))) : FnSpec Pr g F29 := by
  intro a t h0
  unfold F29 at h0
  split at h0
  · rename_i a b
    simp only [Option.some.injEq] at h0; subst h0
    rintro v ⟨⟨ha, hb⟩, hs⟩
    have hs : _ = v := hs
    subst hs
    have := h (dSpan a) (dSpan b)
    rw [← ha, ← hb] at this
    exact this
  · cases h0
theorem c29 : FnSpec Pr 29 F29 := ahead_spec fun a b => fn_of_fin G0 (by kernel_rfl) (t29 a b) (w29 a b)
theorem c49 : FnSpec Pr 49 F29 := ahead_spec fun a b => fn_of_fin G0 (by kernel_rfl) (t49 a b) (w29 a b)
def U29 : USum := addV noU 29 F29
theorem G29 : GoodU Pr U29 := G0.addV c29
def U49 : USum := addV noU 49 F29
theorem G49 : GoodU Pr U49 := G0.addV c49
/-- the first of c of which p holds; -1: there is none -/
def idxN (p : Nat → Bool) (c : Nat) : Nat → Nat → Int
  | 0, _ => -1
  | d + 1, j => bif p j then (j : Int) else idxN p c d (j + 1)
theorem idxN_none {p : Nat → Bool} {c : Nat} : ∀ {d j}, (0 ≤ idxN p c d j) ↔ ∃ k, j ≤ k ∧ k < j + d ∧ p k = true
  | 0, j => by
    constructor
    · intro h; simp [idxN] at h
    · rintro ⟨k, h1, h2, _⟩; omega
  | d + 1, j => by
    unfold idxN
    cases hp : p j with
    | true => exact ⟨fun _ => ⟨j, by omega, by omega, hp⟩, fun _ => by simp⟩
    | false =>
      rw [cond_false, idxN_none]
      constructor
      · rintro ⟨k, h1, h2, h3⟩; exact ⟨k, by omega, by omega, h3⟩
      · rintro ⟨k, h1, h2, h3⟩
        refine ⟨k, ?_, by omega, h3⟩
        by_cases e : k = j
        · subst e; rw [hp] at h3; cases h3
        · omega
def bB (n m : Nat) (S : Nat → Span) (E : Nat → Event) (fl fm : Bool) (v : Int) : List ABlk := [.row 2 [lsS n S fl, lsE m E fm] .nil, .row 1 [i 0] (.node (some (i v)) .nil .nil)]
def be : AV := .fn (.func 47) [] [.ptr 8 0, .ptr 9 0]
def y126 : Hy := hyp 2 [(47, [15]), (126, [9])] [(126, [(2, [0, 1, 7, 8])])] [] []
section
variable (c n m : Nat) (S : Nat → Span) (E : Nat → Event) (fl fm fc : Bool) (l : Nat → Int) (v : Int)
def S126 (j : Int) : AM := hd 126 19 [(0, lsI c l fc), (1, be), (7, i c), (8, i j)] (tdo Pr 126 0) (bB n m S E fl fm v)
theorem e126 : symM Pr U29 y126 70 (sttB Pr 126 [lsI c l fc, be] (bB n m S E fl fm v)) = .ck True (.leaf (.to (S126 c n m S E fl fm fc l v 0))) := by kernel_rfl
theorem t126 (j : Nat) : symM Pr U29 y126 150 (S126 c n m S E fl fm fc l v j) =
  (.br (decide ((j : Int) < (c : Int)))
   (.cki (0 ≤ (j : Int) ∧ (j : Int) < (c : Int))
   (.cki (0 ≤ v ∧ v < (n : Int))
   (.cki (0 ≤ l j ∧ l j < (n : Int))
   (.ck (eSpan (S v.toNat) = eSpan (dSpan (eSpan (S v.toNat))) ∧ eSpan (S (l j).toNat) = eSpan (dSpan (eSpan (S (l j).toNat))))
   (.br (aheadB (S v.toNat) (S (l j).toNat))
    (.ck True (.leaf (.fin (i j) (bB n m S E fl fm v))))
    (.ck True (.leaf (.to (S126 c n m S E fl fm fc l v (W ((j : Int) + 1))))))))))) 
   (.ck True (.leaf (.fin (i (-1)) (bB n m S E fl fm v))))) := by kernel_rfl
end
section
variable {c n m : Nat} {S : Nat → Span} {E : Nat → Event} {fl fm fc : Bool} {l : Nat → Int} {v : Int}
def behB (S : Nat → Span) (l : Nat → Int) (v : Int) (k : Nat) : Bool := aheadB (S v.toNat) (S (l k).toNat)
theorem l126 (hc : c ≤ 1000000) (hv : 0 ≤ v ∧ v < (n : Int)) (hr : Rng c l n) : ∀ d j, j + d = c → EndsM Pr 2 (S126 c n m S E fl fm fc l v (j : Int)) fun w bs => w = i (idxN (behB S l v) c d j) ∧ bs = bB n m S E fl fm v
  | 0, j, hd => by
    obtain rfl : j = c := by omega
    exact endsM_of G29 (t126 j n m S E fl fm fc l v j) ⟨fun h => by simp at h, fun _ => ⟨trivial, rfl, rfl⟩⟩
  | d + 1, j, hd => by
    refine endsM_of G29 (t126 c n m S E fl fm fc l v j) ⟨fun h => ⟨by omega, hv, hr j (by omega), ⟨rfl, rfl⟩, fun h1 => ⟨trivial, ?_, rfl⟩, fun h1 => ⟨trivial, ?_⟩⟩, fun h => by simp at h; omega⟩
    · show i j = i (bif behB S l v j then (j : Int) else _)
      rw [show behB S l v j = true from h1]; rfl
    · show EndsM Pr 2 (S126 c n m S E fl fm fc l v (W ((j : Int) + 1))) _
      rw [W_succ (n := c) (by omega) hc, show idxN (behB S l v) c (d + 1) j = idxN (behB S l v) c d (j + 1) by show (bif behB S l v j then _ else _) = _; rw [show behB S l v j = false from h1]; rfl]
      exact l126 hc hv hr d (j + 1) (by omega)
theorem c126' (hc : c ≤ 1000000) (hv : 0 ≤ v ∧ v < (n : Int)) (hr : Rng c l n) : MutCall Pr 126 [lsI c l fc, be] (bB n m S E fl fm v) (i (idxN (behB S l v) c c 0)) (bB n m S E fl fm v) :=
  mut_of_eq (p := 2) rfl (by kernel_rfl) (endsM_of G29 (e126 c n m S E fl fm fc l v) ⟨trivial, l126 hc hv hr c 0 (by omega)⟩)
end
def F126 : List AV → List ABlk → Option (T (AV × List ABlk))
  | [.ls c f 1 fc, .fn (.func 47) [] [.ptr 8 0, .ptr 9 0]], [.row 2 [.ls n fS 15 fl, .ls m fE 12 fm] .nil, .row 1 [.int .i64 z] (.node (some (.int .i64 v)) .nil .nil)] =>
    some (.ck (c ≤ 1000000 ∧ IsE c f eI dI ∧ IsE n fS eSpan dSpan ∧ IsE m fE eEvent dEvent ∧ (0 ≤ v ∧ v < (n : Int)) ∧ Rng c (fun k => dI (f k)) n) (.leaf (i (idxN (behB (fun k => dSpan (fS k)) (fun k => dI (f k)) v) c c 0), bB n m (fun k => dSpan (fS k)) (fun k => dEvent (fE k)) fl fm v)))
  | _, _ => none
theorem MutCall.args {P : Program} {g : FuncId} {a a' : List AV} {bs bs' : List ABlk} {v : AV} (hl : ∀ ρ cs, VRs ρ a cs → VRs ρ a' cs) (M : MutCall P g a' bs v bs') : MutCall P g a bs v bs' :=
  ⟨M.len, ⟨M.ok.1, fun N own ρ w cargs H hc O hN => M.ok.2 N own ρ w cargs H (hl _ _ hc) O hN⟩, M.free, M.ids⟩
theorem row_hist {n m : Nat} {fS fS' fE fE' : Nat → List AV} {fl fm : Bool} (hS : ∀ k, k < n → fS k = fS' k) (hE : ∀ k, k < m → fE k = fE' k) : ∀ i v', rowGet 2 [.ls n fS' 15 fl, .ls m fE' 12 fm] .nil i = some v' → ∃ v, rowGet 2 [.ls n fS 15 fl, .ls m fE 12 fm] .nil i = some v ∧ Like v v' := by
  intro q v' h
  have hq := rowGet_lt h
  match q, hq with
  | 0, _ =>
    have h : some _ = some v' := h
    cases h
    exact ⟨_, rfl, Like.ls hS (fun h => h)⟩
  | 1, _ =>
    have h : some _ = some v' := h
    cases h
    exact ⟨_, rfl, Like.ls hE (fun h => h)⟩
theorem c126 : MutSpec Pr 126 F126 := by
  intro a bs t h
  unfold F126 at h
  split at h
  · rename_i c f fc n fS fl m fE fm z v
    simp only [Option.some.injEq] at h; subst h
    rintro w bs' ⟨⟨hc, hf, hS, hE, hv, hr⟩, hs⟩
    have hs : (_, _) = (w, bs') := hs
    cases hs
    refine MutCall.args (likes_ls hf (fun h => h)) (MutCall.pre (bs1 := bB n m (fun k => dSpan (fS k)) (fun k => dEvent (fE k)) fl fm v) (.row (row_hist hS hE) (.row ?_ .nil)) (c126' hc hv hr))
    intro q u hq
    have hlt := rowGet_lt hq
    match q, hlt with
    | 0, _ => exact ⟨u, hq, Like.rfl⟩
  · cases h
def U18 : USum := addM noU 126 F126
theorem G18 : GoodU Pr U18 := G0.addM c126
theorem t48 (c n m : Nat) (S : Nat → Span) (E : Nat → Event) (fl fm fc : Bool) (l : Nat → Int) (v : Int) : symM Pr U18 (hyp 2 [] [] [] []) 60 (sttB Pr 48 [lsI c l fc, be] (bB n m S E fl fm v)) =
  (.ck True (.ck (c ≤ 1000000 ∧ IsE c (fun k => [i (l k)]) eI dI ∧ IsE n (fun k => eSpan (S k)) eSpan dSpan ∧ IsE m (fun k => eEvent (E k)) eEvent dEvent ∧ (0 ≤ v ∧ v < (n : Int)) ∧ Rng c l n) (.ck True (.leaf (.fin (.bool (decide (idxN (behB S l v) c c 0 ≥ 0))) (bB n m S E fl fm v)))))) := by kernel_rfl
def F48 : List AV → List ABlk → Option (T (AV × List ABlk))
  | [.ls c f 1 fc, .fn (.func 47) [] [.ptr 8 0, .ptr 9 0]], [.row 2 [.ls n fS 15 fl, .ls m fE 12 fm] .nil, .row 1 [.int .i64 z] (.node (some (.int .i64 v)) .nil .nil)] =>
    some (.ck (c ≤ 1000000 ∧ IsE c f eI dI ∧ IsE n fS eSpan dSpan ∧ IsE m fE eEvent dEvent ∧ (0 ≤ v ∧ v < (n : Int)) ∧ Rng c (fun k => dI (f k)) n) (.leaf (.bool (decide (idxN (behB (fun k => dSpan (fS k)) (fun k => dI (f k)) v) c c 0 ≥ 0)), bB n m (fun k => dSpan (fS k)) (fun k => dEvent (fE k)) fl fm v)))
  | _, _ => none
theorem c48 : MutSpec Pr 48 F48 := by
  intro a bs t h
  unfold F48 at h
  split at h
  · rename_i c f fc n fS fl m fE fm z v
    simp only [Option.some.injEq] at h; subst h
    rintro w bs' ⟨⟨hc, hf, hS, hE, hv, hr⟩, hs⟩
    have hs : (_, _) = (w, bs') := hs
    cases hs
    refine MutCall.args (likes_ls hf (fun h => h)) (MutCall.pre (bs1 := bB n m (fun k => dSpan (fS k)) (fun k => dEvent (fE k)) fl fm v) (.row (row_hist hS hE) (.row ?_ .nil)) ?_)
    · intro q u hq
      have hlt := rowGet_lt hq
      match q, hlt with
      | 0, _ => exact ⟨u, hq, Like.rfl⟩
    · exact mut_of_eq (p := 2) rfl (by kernel_rfl) (endsM_of G18 (t48 c n m (fun k => dSpan (fS k)) (fun k => dEvent (fE k)) fl fm fc (fun k => dI (f k)) v) ⟨trivial, ⟨hc, fun _ _ => rfl, isE_of d_eSpan, isE_of d_eEvent, hv, hr⟩, trivial, rfl, rfl⟩)
  · cases h
def U18b : USum := addM noU 48 F48
theorem G18b : GoodU Pr U18b := G0.addM c48
end
end Go.Gar

set_option linter.unusedVariables false
set_option linter.unusedSimpArgs false
set_option maxHeartbeats 1000000
namespace Go.Gar
open Go Go.EV Go.EV.Srt
noncomputable section
/-! does an order respect what was over? -/
def pairB (S : Nat → Span) (l : Nat → Int) (j k : Nat) : Bool := !(l j == l k) && !aheadB (S (l j).toNat) (S (l k).toNat)
def inB (n : Nat) (l : Nat → Int) (j : Nat) : Bool := decide (0 ≤ l j) && decide (l j < (n : Int))
def okR (n : Nat) (S : Nat → Span) (l : Nat → Int) (j : Nat) : Bool := inB n l j && allN (pairB S l j) j
def respB (n : Nat) (S : Nat → Span) (c : Nat) (l : Nat → Int) : Bool := allN (okR n S l) c
def seenB (l : Nat → Int) (j : Nat) (v : Int) : Bool := !allN (fun k => !(v == l k)) j
theorem allN_ex {p : Nat → Bool} {n : Nat} (h : allN p n = false) : ∃ k, k < n ∧ p k = false := by
  induction n with
  | zero => cases h
  | succ n ih =>
    simp only [allN, Bool.and_eq_false_iff] at h
    rcases h with h | h
    · obtain ⟨k, h1, h2⟩ := ih h
      exact ⟨k, by omega, h2⟩
    · exact ⟨n, by omega, h⟩
def y18 : Hy := hy [(18, [13, 22, 29, 38])] [(18, [(2, [1, 2, 5, 10, 11, 12])])] [] [(18, [9])]
section
variable (c n m : Nat) (S : Nat → Span) (E : Nat → Event) (fl fm fc : Bool) (l : Nat → Int)
def S18 (u : List (Int × AV)) (hs : Int → Bool) (x : Int → AV) (j : Int) : AM := hd 18 40 [(1, lsI c l fc), (2, .ptr 8 0), (5, .mp 9), (10, lsI c l fc), (11, i c), (12, i j)] (tdo Pr 18 0) [.row 2 [lsS n S fl, lsE m E fm] .nil, .imap .i64 u hs x]
theorem e18 : symF Pr U18b y18 80 (stt Pr 18 [.agg [lsS n S fl, lsE m E fm], lsI c l fc]) = .ck True (.leaf (.to (S18 c n m S E fl fm fc l [] (fun _ => false) (fun _ => .bool false) 0))) := by kernel_rfl
theorem t18 (hs : Int → Bool) (j : Nat) : symF Pr U18b y18 180 (S18 c n m S E fl fm fc l [] hs (fun _ => .bool true) j) =
  (.br (decide ((j : Int) < (c : Int)))
   (.cki (0 ≤ (j : Int) ∧ (j : Int) < (c : Int))
   (.br (hs (l j))
    (.leaf (.fin (.bool false)))
    (.br (decide (l j < 0))
     (.leaf (.fin (.bool false)))
     (.br (decide (l j ≥ (n : Int)))
      (.leaf (.fin (.bool false)))
      (.cki (0 ≤ (j : Int) ∧ (j : Int) ≤ (c : Int))
      (.ck True
      (.ck (j ≤ 1000000 ∧ IsE j (fun k => [i (l (addZ 0 k))]) eI dI ∧ IsE n (fun k => eSpan (S k)) eSpan dSpan ∧ IsE m (fun k => eEvent (E k)) eEvent dEvent ∧ (0 ≤ l j ∧ l j < (n : Int)) ∧ Rng j l n)
      (.br (decide (idxN (behB S l (l j)) j j 0 ≥ 0))
       (.leaf (.fin (.bool false)))
       (.ck True (.leaf (.to (S18 c n m S E fl fm fc l [(l j, .bool true)] hs (fun _ => .bool true) (W ((j : Int) + 1))))))))))))))
   (.leaf (.fin (.bool true)))) := by kernel_rfl
end
section
variable {c n m : Nat} {S : Nat → Span} {E : Nat → Event} {fl fm fc : Bool} {l : Nat → Int}
theorem okR_in {j : Nat} (h : okR n S l j = true) : 0 ≤ l j ∧ l j < (n : Int) := by
  unfold okR inB at h
  simp only [Bool.and_eq_true, decide_eq_true_eq] at h
  exact h.1
theorem l18 (hc : c ≤ 1000000) : ∀ d j, j + d = c → allN (okR n S l) j = true → EndsF Pr (S18 c n m S E fl fm fc l [] (seenB l j) (fun _ => .bool true) (j : Int)) (· = .bool (respB n S c l))
  | 0, j, hd, hj => by
    obtain rfl : j = c := by omega
    refine endsF_of G18b (t18 j n m S E fl fm fc l _ j) ⟨fun h => by simp at h, fun _ => ?_⟩
    show AV.bool true = _
    unfold respB; rw [hj]
  | d + 1, j, hd, hj => by
    have hbad : okR n S l j = false → AV.bool false = .bool (respB n S c l) := fun h => by unfold respB; rw [allN_false (p := okR n S l) (j := j) (by omega) h]
    refine endsF_of G18b (t18 c n m S E fl fm fc l _ j) ⟨fun h => ⟨by omega, fun h1 => hbad ?_, fun h1 => ⟨fun h2 => hbad ?_, fun h2 => ⟨fun h3 => hbad ?_, fun h3 => ⟨by omega, trivial, ⟨by omega, fun _ _ => rfl, isE_of d_eSpan, isE_of d_eEvent, ?_, fun k hk => okR_in (allN_iff.mp hj k hk)⟩, fun h4 => hbad ?_, fun h4 => ⟨trivial, ?_⟩⟩⟩⟩⟩, fun h => by simp at h; omega⟩
    · have h1 : seenB l j (l j) = true := h1
      unfold seenB at h1
      simp only [Bool.not_eq_true'] at h1
      obtain ⟨k, k1, k2⟩ := allN_ex h1
      unfold okR
      rw [allN_false (p := pairB S l j) k1 (by unfold pairB; rw [k2]; rfl)]
      simp
    · unfold okR inB
      simp only [decide_eq_true_eq] at h2
      rw [show decide (0 ≤ l j) = false from decide_eq_false (by omega)]; rfl
    · unfold okR inB
      simp only [decide_eq_true_eq] at h3
      rw [show decide (l j < (n : Int)) = false from decide_eq_false (by omega)]; simp
    · simp only [decide_eq_false_iff_not] at h2 h3
      omega
    · simp only [decide_eq_true_eq] at h4
      obtain ⟨k, k1, k2, k3⟩ := idxN_none.mp h4
      unfold okR
      rw [allN_false (p := pairB S l j) (j := k) (by omega) (by unfold pairB; rw [show aheadB (S (l j).toNat) (S (l k).toNat) = true from k3]; simp)]
      simp
    · have h1 : seenB l j (l j) = false := h1
      simp only [decide_eq_false_iff_not] at h2 h3 h4
      have hok : okR n S l j = true := by
        unfold okR inB
        simp only [Bool.and_eq_true, decide_eq_true_eq]
        refine ⟨by omega, allN_iff.mpr fun k hk => ?_⟩
        unfold pairB
        simp only [Bool.and_eq_true]
        unfold seenB at h1
        simp only [Bool.not_eq_false'] at h1
        refine ⟨allN_iff.mp h1 k hk, ?_⟩
        cases ha : aheadB (S (l j).toNat) (S (l k).toNat) with
        | false => rfl
        | true => exact absurd (idxN_none.mpr ⟨k, by omega, by omega, ha⟩) h4
      show EndsF Pr (S18 c n m S E fl fm fc l [(l j, .bool true)] (seenB l j) _ (W ((j : Int) + 1))) _
      rw [W_succ (n := c) (by omega) hc]
      refine EndsF.norm (by kernel_rfl) SlEq.rfl (.same _ (.imap (u' := []) (hs' := seenB l (j + 1)) (x' := fun _ => .bool true) (fun v => ?_) (fun v hv => ?_) .nil)) (l18 hc d (j + 1) (by omega) (by simp only [allN, hj, hok, Bool.and_self]))
      · show (v == l j || seenB l j v) = seenB l (j + 1) v
        unfold seenB
        simp only [allN]
        cases v == l j <;> cases allN (fun k => !(v == l k)) j <;> rfl
      · show (bif v == l j then AV.bool true else AV.bool true) = AV.bool true
        cases v == l j <;> rfl
theorem c18' (hc : c ≤ 1000000) : FnCall Pr 18 [.agg [lsS n S fl, lsE m E fm], lsI c l fc] (.bool (respB n S c l)) := by
  refine fn_of_fin G18b (by kernel_rfl) (e18 c n m S E fl fm fc l) ⟨trivial, ?_⟩
  refine EndsF.norm (by kernel_rfl) SlEq.rfl (.same _ (.imap (u' := []) (hs' := seenB l 0) (x' := fun _ => .bool true) (fun v => rfl) (fun v hv => ?_) .nil)) (l18 hc c 0 (by omega) rfl)
  cases hv
end
def F18 : List AV → Option (T AV)
  | [.agg [.ls n f 15 fl, .ls m g 12 fm], .ls c h 1 fc] => some (.ck (c ≤ 1000000 ∧ IsE n f eSpan dSpan ∧ IsE m g eEvent dEvent ∧ IsE c h eI dI) (.leaf (.bool (respB n (fun k => dSpan (f k)) c (fun k => dI (h k))))))
  | _ => none
theorem likes_agg_ls2 {n m c e1 e2 e3 : Nat} {f f' g g' h h' : Nat → List AV} {fl fm fc : Bool} (hf : ∀ k, k < n → f k = f' k) (hg : ∀ k, k < m → g k = g' k) (hh : ∀ k, k < c → h k = h' k) : ∀ ρ cs, VRs ρ [.agg [.ls n f e1 fl, .ls m g e2 fm], .ls c h e3 fc] cs → VRs ρ [.agg [.ls n f' e1 fl, .ls m g' e2 fm], .ls c h' e3 fc] cs :=
  likes_cons (Like.agg (likes_cons (Like.ls hf (fun h => h)) (likes_cons (Like.ls hg (fun h => h)) likes_nil))) (likes_ls hh (fun h => h))
theorem resp_spec {g : FuncId} (hc : ∀ (c n m : Nat) (S : Nat → Span) (E : Nat → Event) (fl fm fc : Bool) (l : Nat → Int), c ≤ 1000000 → FnCall Pr g [.agg [lsS n S fl, lsE m E fm], lsI c l fc] (.bool (respB n S c l))) : FnSpec Pr g F18 := by
  intro a t h0
  unfold F18 at h0
  split at h0
  · rename_i n f fl m g fm c h fc
    simp only [Option.some.injEq] at h0; subst h0
    rintro v ⟨⟨h1, hf, hg, hh⟩, hs⟩
    have hs : _ = v := hs
    subst hs
    exact FnCall_args (likes_agg_ls2 hf hg hh) (hc _ _ _ _ _ _ _ _ _ h1)
  · cases h0
theorem c18 : FnSpec Pr 18 F18 := resp_spec fun c n m S E fl fm fc l hc => c18' hc

/-! the document's answer -/
def y19 : Hy := hy [(19, [11, 18, 27, 32, 37, 48, 66])] [(19, [(2, [1, 2, 5, 6]), (6, [1, 2, 6, 7])])] [] []
section
variable (c n m : Nat) (S : Nat → Span) (E : Nat → Event) (fl fm fc : Bool) (l : Nat → Int)
def S19a (j : Int) : AM := hd 19 68 [(1, lsI c l fc), (2, .ptr 8 0), (5, i j)] (tdo Pr 19 0) [.row 2 [lsS n S fl, lsE m E fm] .nil]
def S19b (p : Int) : AM := hd 19 68 [(1, lsI c l fc), (2, .ptr 8 0), (6, i p)] (tdo Pr 19 1) [.row 2 [lsS n S fl, lsE m E fm] .nil]
def S19b' (q p : Int) : AM := hd 19 68 [(1, lsI c l fc), (2, .ptr 8 0), (5, i q), (6, i p)] (tdo Pr 19 1) [.row 2 [lsS n S fl, lsE m E fm] .nil]
def S19c (p : Nat) (j : Int) : AM := hd 19 68 [(1, lsI c l fc), (2, .ptr 8 0), (6, i p), (7, i j)] (tdo Pr 19 2) [.row 2 [lsS n S fl, lsE m E fm] .nil]
theorem e19 : symF Pr U49 y19 70 (stt Pr 19 [.agg [lsS n S fl, lsE m E fm], lsI c l fc]) = .ck True (.leaf (.to (S19a c n m S E fl fm fc l 0))) := by kernel_rfl
theorem t19a (j : Nat) : symF Pr U49 y19 130 (S19a c n m S E fl fm fc l j) =
  (.br (decide ((j : Int) < (c : Int)))
   (.cki (0 ≤ (j : Int) ∧ (j : Int) < (c : Int))
   (.br (decide (l j < 0))
    (.leaf (.fin (.bool false)))
    (.cki (0 ≤ (j : Int) ∧ (j : Int) < (c : Int))
    (.br (decide (l j ≥ (n : Int)))
     (.leaf (.fin (.bool false)))
     (.ck True (.leaf (.to (S19a c n m S E fl fm fc l (W ((j : Int) + 1))))))))))
   (.ck True (.leaf (.to (S19b' c n m S E fl fm fc l j 0))))) := by kernel_rfl
theorem t19b (p : Nat) : symF Pr U49 y19 80 (S19b c n m S E fl fm fc l p) =
  (.br (decide ((p : Int) < (c : Int))) (.ck True (.leaf (.to (S19c c n m S E fl fm fc l p 0)))) (.leaf (.fin (.bool true)))) := by kernel_rfl
theorem t19c (p j : Nat) : symF Pr U49 y19 210 (S19c c n m S E fl fm fc l p j) =
  (.br (decide ((j : Int) < (p : Int)))
   (.cki (0 ≤ (p : Int) ∧ (p : Int) < (c : Int))
   (.cki (0 ≤ (j : Int) ∧ (j : Int) < (c : Int))
   (.br (l p == l j)
    (.leaf (.fin (.bool false)))
    (.cki (0 ≤ (p : Int) ∧ (p : Int) < (c : Int))
    (.cki (0 ≤ l p ∧ l p < (n : Int))
    (.cki (0 ≤ (j : Int) ∧ (j : Int) < (c : Int))
    (.cki (0 ≤ l j ∧ l j < (n : Int))
    (.ck (eSpan (S (l p).toNat) = eSpan (dSpan (eSpan (S (l p).toNat))) ∧ eSpan (S (l j).toNat) = eSpan (dSpan (eSpan (S (l j).toNat))))
    (.br (aheadB (S (l p).toNat) (S (l j).toNat))
     (.leaf (.fin (.bool false)))
     (.ck True (.leaf (.to (S19c c n m S E fl fm fc l p (W ((j : Int) + 1))))))))))))))) 
   (.ck True (.leaf (.to (S19b c n m S E fl fm fc l (W ((p : Int) + 1))))))) := by kernel_rfl
end
section
variable {c n m : Nat} {S : Nat → Span} {E : Nat → Event} {fl fm fc : Bool} {l : Nat → Int}
theorem l19c (hc : c ≤ 1000000) (hin : ∀ k, k < c → inB n l k = true) {p : Nat} (hp : p < c) (hpp : allN (okR n S l) p = true)
    (hQ : okR n S l p = true → EndsF Pr (S19b c n m S E fl fm fc l ((p + 1 : Nat) : Int)) (· = .bool (respB n S c l))) : ∀ d j, j + d = p → allN (pairB S l p) j = true → EndsF Pr (S19c c n m S E fl fm fc l p (j : Int)) (· = .bool (respB n S c l))
  | 0, j, hd, hj => by
    obtain rfl : j = p := by omega
    refine endsF_of G49 (t19c c n m S E fl fm fc l j j) ⟨fun h => by simp at h, fun _ => ⟨trivial, ?_⟩⟩
    show EndsF Pr (S19b c n m S E fl fm fc l (W ((j : Int) + 1))) _
    rw [W_succ hp hc]
    exact hQ (by unfold okR; rw [hin j hp, hj]; rfl)
  | d + 1, j, hd, hj => by
    have hrg : ∀ k, k < c → 0 ≤ l k ∧ l k < (n : Int) := fun k hk => by
      have := hin k hk
      unfold inB at this
      simp only [Bool.and_eq_true, decide_eq_true_eq] at this
      exact this
    have hbad : pairB S l p j = false → AV.bool false = .bool (respB n S c l) := fun h => by
      unfold respB
      rw [allN_false (p := okR n S l) hp (by unfold okR; rw [allN_false (p := pairB S l p) (j := j) (by omega) h]; simp)]
    refine endsF_of G49 (t19c c n m S E fl fm fc l p j) ⟨fun h => ⟨by omega, by omega, fun h1 => hbad ?_, fun h1 => ⟨by omega, hrg p hp, by omega, hrg j (by omega), ⟨rfl, rfl⟩, fun h2 => hbad ?_, fun h2 => ⟨trivial, ?_⟩⟩⟩, fun h => by simp at h; omega⟩
    · unfold pairB; rw [h1]; rfl
    · unfold pairB; rw [h2]; simp
    · show EndsF Pr (S19c c n m S E fl fm fc l p (W ((j : Int) + 1))) _
      rw [W_succ (n := c) (by omega) hc]
      exact l19c hc hin hp hpp hQ d (j + 1) (by omega) (by simp only [allN, hj, Bool.true_and]; unfold pairB; rw [h1, h2]; rfl)
theorem l19b (hc : c ≤ 1000000) (hin : ∀ k, k < c → inB n l k = true) : ∀ d p, p + d = c → allN (okR n S l) p = true → EndsF Pr (S19b c n m S E fl fm fc l (p : Int)) (· = .bool (respB n S c l))
  | 0, p, hd, hp => by
    obtain rfl : p = c := by omega
    refine endsF_of G49 (t19b p n m S E fl fm fc l p) ⟨fun h => by simp at h, fun _ => ?_⟩
    show AV.bool true = _
    unfold respB; rw [hp]
  | d + 1, p, hd, hp => endsF_of G49 (t19b c n m S E fl fm fc l p) ⟨fun h => ⟨trivial, l19c hc hin (by omega) hp (fun h => l19b hc hin d (p + 1) (by omega) (by simp only [allN, hp, h, Bool.and_self])) p 0 (by omega) rfl⟩, fun h => by simp at h; omega⟩
theorem l19a (hc : c ≤ 1000000) : ∀ d j, j + d = c → (∀ k, k < j → inB n l k = true) → EndsF Pr (S19a c n m S E fl fm fc l (j : Int)) (· = .bool (respB n S c l))
  | 0, j, hd, hj => by
    obtain rfl : j = c := by omega
    refine endsF_of G49 (t19a j n m S E fl fm fc l j) ⟨fun h => by simp at h, fun _ => ⟨trivial, ?_⟩⟩
    exact EndsF.norm (by kernel_rfl) (.same _ (.same _ (.drop rfl SlEq.rfl))) BsEq.rfl (l19b hc hj j 0 (by omega) rfl)
  | d + 1, j, hd, hj => by
    have hbad : inB n l j = false → AV.bool false = .bool (respB n S c l) := fun h => by
      unfold respB
      rw [allN_false (p := okR n S l) (j := j) (by omega) (by unfold okR; rw [h]; rfl)]
    refine endsF_of G49 (t19a c n m S E fl fm fc l j) ⟨fun h => ⟨by omega, fun h1 => hbad ?_, fun h1 => ⟨by omega, fun h2 => hbad ?_, fun h2 => ⟨trivial, ?_⟩⟩⟩, fun h => by simp at h; omega⟩
    · unfold inB
      simp only [decide_eq_true_eq] at h1
      rw [show decide (0 ≤ l j) = false from decide_eq_false (by omega)]; rfl
    · unfold inB
      simp only [decide_eq_true_eq] at h2
      rw [show decide (l j < (n : Int)) = false from decide_eq_false (by omega)]; simp
    · show EndsF Pr (S19a c n m S E fl fm fc l (W ((j : Int) + 1))) _
      rw [W_succ (n := c) (by omega) hc]
      refine l19a hc d (j + 1) (by omega) fun k hk => ?_
      by_cases e : k = j
      · subst e
        unfold inB
        simp only [decide_eq_false_iff_not] at h1 h2
        simp only [Bool.and_eq_true, decide_eq_true_eq]
        omega
      · exact hj k (by omega)
end
theorem c19 : FnSpec Pr 19 F18 := resp_spec fun c n m S E fl fm fc l hc =>
  fn_of_fin G49 (by kernel_rfl) (e19 c n m S E fl fm fc l) ⟨trivial, l19a hc c 0 (by omega) fun k hk => by omega⟩
end
end Go.Gar

set_option linter.unusedVariables false
set_option linter.unusedSimpArgs false
set_option maxHeartbeats 1000000
namespace Go.Gar
open Go Go.EV Go.EV.Srt
/-! the two orders are one -/
theorem pos_hi {K : Int → Int} {x : Nat → Int} {v : Int} : ∀ {a k : Nat}, pos K x v a ≤ k → k < a → K (x k) > v
  | 0, k, _, h => by omega
  | a + 1, k, h1, h2 => by
    unfold pos at h1
    split at h1
    · rename_i h
      by_cases e : k = a
      · subst e; exact h
      · exact pos_hi h1 (by omega)
    · omega
theorem pos_lo {K : Int → Int} {x : Nat → Int} {v : Int} : ∀ {a : Nat}, 0 < pos K x v a → K (x (pos K x v a - 1)) ≤ v
  | 0, h => by simp [pos] at h
  | a + 1, h => by
    unfold pos at h ⊢
    split
    · rename_i hk
      rw [if_pos hk] at h
      exact pos_lo h
    · rename_i hk
      simpa using hk
theorem ins_srt {K : Int → Int} {x : Nat → Int} {v : Int} {c : Nat} (hx : Srt K x 0 c) (hv : ∀ k, k < c → x k < v) : Srt K (insF x (pos K x (K v) c) v) 0 (c + 1) := by
  have hlo : ∀ k, k < pos K x (K v) c → K (x k) ≤ K v := by
    intro k hk
    have h0 := pos_lo (K := K) (x := x) (v := K v) (a := c) (by omega)
    have hc := pos_le (K := K) (x := x) (v := K v) (a := c)
    by_cases e : k = pos K x (K v) c - 1
    · rw [e]; exact h0
    · have := hx k (pos K x (K v) c - 1) (Nat.zero_le _) (by omega) (by omega)
      unfold Srt.lt at this
      omega
  have hhi : ∀ k, pos K x (K v) c ≤ k → k < c → K (x k) > K v := fun k => pos_hi
  have hpc := pos_le (K := K) (x := x) (v := K v) (a := c)
  generalize pos K x (K v) c = p at hlo hhi hpc
  intro a b _ h1 h2
  unfold insF
  by_cases ha : a < p
  · rw [if_pos ha]
    by_cases hb : b < p
    · rw [if_pos hb]; 
      by_cases hbc : b < c
      · exact hx a b (Nat.zero_le _) h1 hbc
      · exfalso
        omega
    · rw [if_neg hb]
      by_cases hb2 : b = p
      · rw [if_pos hb2]
        have := hlo a ha
        have h3 := hv a (by omega)
        unfold Srt.lt; omega
      · rw [if_neg hb2]
        exact hx a (b - 1) (Nat.zero_le _) (by omega) (by omega)
  · rw [if_neg ha, if_neg (show ¬ b < p by omega), if_neg (show ¬ b = p by omega)]
    by_cases ha2 : a = p
    · rw [if_pos ha2]
      have := hhi (b - 1) (by omega) (by omega)
      unfold Srt.lt; omega
    · rw [if_neg ha2]
      exact hx (a - 1) (b - 1) (Nat.zero_le _) (by omega) (by omega)
theorem ins_mem {x : Nat → Int} {v w : Int} {c p : Nat} (hp : p ≤ c) : (∃ k, k < c + 1 ∧ insF x p v k = w) ↔ (∃ k, k < c ∧ x k = w) ∨ w = v := by
  unfold insF
  constructor
  · rintro ⟨k, hk, h⟩
    split at h
    · exact .inl ⟨k, by omega, h⟩
    · split at h
      · exact .inr h.symm
      · exact .inl ⟨k - 1, by omega, h⟩
  · rintro (⟨k, hk, h⟩ | rfl)
    · by_cases e : k < p
      · exact ⟨k, by omega, by rw [if_pos e]; exact h⟩
      · exact ⟨k + 1, by omega, by rw [if_neg (by omega), if_neg (by omega)]; exact h⟩
    · exact ⟨p, by omega, by rw [if_neg (by omega), if_pos rfl]⟩
section
variable {S : Nat → Span} {E : Nat → Event} {m : Nat}
theorem xR_mem {w : Int} : ∀ {j}, (∃ k, k < (fil (selR S E m) j).length ∧ xR S E m j k = w) ↔ ∃ a : Nat, a < j ∧ selR S E m a = true ∧ w = (a : Int)
  | 0 => ⟨fun ⟨k, h, _⟩ => by simp [fil] at h, fun ⟨a, h, _⟩ => by omega⟩
  | j + 1 => by
    have ih := xR_mem (w := w) (j := j)
    cases hs : selR S E m j with
    | true =>
      simp only [fil, xR, hs, cond_true, List.length_append, List.length_cons, List.length_nil]
      rw [ins_mem pos_le, ih]
      constructor
      · rintro (⟨a, h1, h2, h3⟩ | h)
        · exact ⟨a, by omega, h2, h3⟩
        · exact ⟨j, by omega, hs, h⟩
      · rintro ⟨a, h1, h2, h3⟩
        by_cases e : a = j
        · exact .inr (by rw [h3, e])
        · exact .inl ⟨a, by omega, h2, h3⟩
    | false =>
      simp only [fil, xR, hs, cond_false, List.append_nil]
      rw [ih]
      constructor
      · rintro ⟨a, h1, h2, h3⟩; exact ⟨a, by omega, h2, h3⟩
      · rintro ⟨a, h1, h2, h3⟩
        refine ⟨a, ?_, h2, h3⟩
        by_cases e : a = j
        · subst e; rw [hs] at h2; cases h2
        · omega
theorem xR_srt : ∀ {j}, Srt (KR S E m) (xR S E m j) 0 (fil (selR S E m) j).length
  | 0 => fun a b _ _ h => by simp [fil] at h
  | j + 1 => by
    have ih := xR_srt (j := j)
    cases hs : selR S E m j with
    | true =>
      simp only [fil, xR, hs, cond_true, List.length_append, List.length_cons, List.length_nil]
      have : stOf (S j) E m = KR S E m (j : Int) := by unfold KR; rw [Int.toNat_natCast]
      rw [this]
      exact ins_srt ih fun k hk => (xR_rng (n := j) (Nat.le_refl _) k hk).2
    | false =>
      simp only [fil, xR, hs, cond_false, List.append_nil]
      exact ih
theorem ansE_st {s : Span} {e : Event} : ∀ {k} {a : Ans}, a ∈ ansE s e k → a.2 = e.stamp
  | 0, a, h => by simp [ansE] at h
  | k + 1, a, h => by
    simp only [ansE, List.mem_append] at h
    rcases h with h | h
    · exact ansE_st h
    · cases hc : (e.replies.f k).core == s.core with
      | true => rw [hc] at h; simp at h; rw [h]
      | false => rw [hc] at h; simp at h
theorem ansL_st {s : Span} : ∀ {j} {a : Ans}, a ∈ ansL s E j → ∃ k, k < j ∧ a.2 = (E k).stamp
  | 0, a, h => by simp [ansL] at h
  | j + 1, a, h => by
    simp only [ansL, List.mem_append] at h
    rcases h with h | h
    · obtain ⟨k, h1, h2⟩ := ansL_st h; exact ⟨k, by omega, h2⟩
    · cases hc : ins s (E j).stamp with
      | true => rw [hc] at h; exact ⟨j, by omega, ansE_st h⟩
      | false => rw [hc] at h; simp at h
theorem ev_st {n : Nat} {s : Event} (h : evOk n E s = true) : 1 ≤ s.stamp := by
  unfold evOk T39 A39 at h
  simp only [T.valV] at h
  by_cases hs : s.stamp < 1
  · simp only [hs, decide_true, cond_true, cond_false] at h
    revert h
    cases decide (s.kind < 0) <;> cases decide (s.kind > 3) <;> cases decide (s.core ≥ 0) <;> cases decide (s.core < 64) <;> simp [gb]
  · omega
theorem hist_st {n : Nat} (h : histOk n S m E = true) {k : Nat} (hk : k < m) : 1 ≤ (E k).stamp := by
  unfold histOk at h
  simp only [Bool.and_eq_true] at h
  exact ev_st (allN_iff.mp h.2 k hk)
theorem selR_eq {n : Nat} (h : histOk n S m E = true) : selR S E m = sel S E m := by
  funext j
  unfold selR sel stOf
  cases hL : ansL (S j) E m with
  | nil => simp
  | cons a l =>
    obtain ⟨k, h1, h2⟩ := ansL_st (s := S j) (E := E) (j := m) (a := a) (by rw [hL]; simp)
    have := hist_st h h1
    have hz : (a.2 == 0) = false := by rw [h2]; simp; omega
    simp [hz, bne]
theorem srt_congr {K K' : Int → Int} {x : Nat → Int} {n : Nat} (h : ∀ k, k < n → K (x k) = K' (x k)) (hx : Srt K x 0 n) : Srt K' x 0 n := by
  intro a b h0 h1 h2
  have := hx a b h0 h1 h2
  unfold Srt.lt at *
  rw [← h a (by omega), ← h b h2]; exact this
theorem lx_mem {L : List Nat} {w : Int} : (∃ k, k < L.length ∧ lx L k = w) ↔ ∃ a : Nat, a ∈ L ∧ w = (a : Int) := by
  constructor
  · rintro ⟨k, h1, h2⟩
    rw [lx_at h1] at h2
    exact ⟨L[k], List.getElem_mem h1, h2.symm⟩
  · rintro ⟨a, h1, h2⟩
    obtain ⟨k, h3, h4⟩ := List.getElem_of_mem h1
    exact ⟨k, h3, by rw [lx_at h3, h4, h2]⟩
theorem ord_eq {n : Nat} (h : histOk n S m E = true) (hn : n ≤ 40) :
    eqN (fil (sel S E m) n).length (stab (KK (stF S E m n)) (lx (fil (sel S E m) n)) (fil (sel S E m) n).length) (fil (selR S E m) n).length (xR S E m n) = true := by
  have hs := selR_eq h
  obtain ⟨g1, g2⟩ := stab_spec (K := KK (stF S E m n)) (x := lx (fil (sel S E m) n)) (n := (fil (sel S E m) n).length) (Nat.le_trans fil_len hn) fil_inc
  have hm : ∀ w : Int, (∃ k, k < (fil (sel S E m) n).length ∧ xR S E m n k = w) ↔ ∃ k, k < (fil (sel S E m) n).length ∧ lx (fil (sel S E m) n) k = w := by
    intro w
    have := xR_mem (S := S) (E := E) (m := m) (w := w) (j := n)
    rw [hs] at this
    rw [this, lx_mem]
    constructor
    · rintro ⟨a, h1, h2, h3⟩; exact ⟨a, fil_mem.mpr ⟨h1, h2⟩, h3⟩
    · rintro ⟨a, h1, h2⟩; exact ⟨a, (fil_mem.mp h1).1, (fil_mem.mp h1).2, h2⟩
  have g3 : Srt (KR S E m) (stab (KK (stF S E m n)) (lx (fil (sel S E m) n)) (fil (sel S E m) n).length) 0 (fil (sel S E m) n).length := by
    refine srt_congr (fun k hk => ?_) g1
    obtain ⟨j, _, j2, j3⟩ := g2.bwd k (Nat.zero_le _) hk
    rw [j3]
    obtain ⟨a, a1, a2⟩ := lx_mem.mp ⟨j, j2, rfl⟩
    rw [a2]
    have ha := fil_mem.mp a1
    unfold KK KR stF
    rw [Int.toNat_natCast, ha.2]
    simp [ha.1]
  have g4 := xR_srt (S := S) (E := E) (m := m) (j := n)
  rw [hs] at g4 ⊢
  have hu := srt_unique g3 g4 (fun k hk => by
      obtain ⟨j, _, j2, j3⟩ := g2.bwd k (Nat.zero_le _) hk
      obtain ⟨q, q1, q2⟩ := (hm _).mpr ⟨j, j2, rfl⟩
      exact ⟨q, q1, by rw [j3, q2]⟩) (fun k hk => by
      obtain ⟨j, j1, j2⟩ := (hm _).mp ⟨k, hk, rfl⟩
      obtain ⟨q, _, q2, q3⟩ := g2.fwd j (Nat.zero_le _) j1
      exact ⟨q, q2, by rw [← j2, q3]⟩)
  unfold eqN
  rw [Bool.and_eq_true]
  exact ⟨Tr.beq_true.mpr rfl, allN_iff.mpr fun k hk => by rw [hu k hk]; exact beq_self_eq_true _⟩
end
end Go.Gar
