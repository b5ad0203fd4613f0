/- Own text of this claim: an abstract machine over the given program form, and what follows from it. No condition. -/
import Derived.Test.YtjmckfbchpbdoaaGreatPX2
set_option linter.unusedVariables false
set_option linter.unusedSimpArgs false
namespace Go.Proofs.YtjmckfbchpbdoaaGreat
open Go Go.EV
noncomputable section
/-! a plan of a want that may not be: some known cells go into a map, of which nothing is asked -/
def U1 : USum := addV noU 7 F7c
theorem G1 : GoodU Tryz.prog U1 := G0.addV c7c
abbrev prs (n : Nat) (p q : Nat → Int) : AV := .ls n (fun j => [i (p j), i (q j)]) 2 false
def y9 (j : Nat) : Hy := hy [(9, [14])] [(9, [(2, [2,4,5,11,12,13])])] [(9, [(22, i ((j + 1 : Nat) : Int))])] [(9, [10])]
def h9 : T Lv := symF Tryz.prog U1 (y9 0) 500 (stt Tryz.prog 9 [want 0 0 0 0 0 0 0 0 0 0 0 0 0 0, prs 1 (fun _ => 0) (fun _ => 0)])
def S9 (w : List AV) (nn : Nat) (p q : Nat → Int) (u : List (Int × AV)) (hs : Int → Bool) (x : Int → AV) (j : Nat) : AM :=
  hd 9 26 [(2, .ptr 8 0), (4, .ptr 9 0), (5, .ptr 10 0), (11, prs nn p q), (12, i nn), (13, i j)] (todoL h9 0) [.row 14 w .nil, .row 5 [i 0, .nilsl, .nilsl, i 0, .nilsl] .nil, .row 1 [.nilmap] (setT [(0, .mp 11)]), .imap .i64 u hs x]
def plan0 : AV := .agg [i (-1), .nilsl, .nilsl, i (-1), .nilsl]
section
variable (k c n r f m k' ri ba ty si va a b : Int) (nn : Nat) (p q : Nat → Int) (hs : Int → Bool) (x : Int → AV)
def T9 (w : List AV) (u : List (Int × AV)) (hs : Int → Bool) (x : Int → AV) (j : Nat) : T Lv :=
  (.br (decide ((j : Int) < (nn : Int)))
    (.cki (0 ≤ (j : Int) ∧ (j : Int) < (nn : Int))
    (.cki (i (W ((j : Int) + 1)) = i ((j + 1 : Nat) : Int))
    (.ck (True)
    (.leaf (.to (S9 w nn p q ((p j, i (q j)) :: u) hs x (j + 1)))))))
    (.ck (isW k c n r f m = false)
    (.leaf (.fin plan0))))
theorem e9 : symF Tryz.prog U1 (y9 0) 500 (stt Tryz.prog 9 [want k c n r f m k' ri ba ty si va a b, prs nn p q]) = T9 k c n r f m nn p q (want k c n r f m k' ri ba ty si va a b).cells [] (fun _ => false) (fun _ => i 0) 0 := by kernel_rfl
theorem t9 (j : Nat) : symF Tryz.prog U1 (y9 j) 500 (S9 (want k c n r f m k' ri ba ty si va a b).cells nn p q [] hs x j) = T9 k c n r f m nn p q (want k c n r f m k' ri ba ty si va a b).cells [] hs x j := by kernel_rfl
end
section
variable {k c n r f m k' ri ba ty si va a b : Int} {nn : Nat} {p q : Nat → Int}
theorem wp9 (hw : isW k c n r f m = false) (hn : nn ≤ 100000) : ∀ (d j : Nat) (hs : Int → Bool) (x : Int → AV), j + d = nn →
    (T9 k c n r f m nn p q (want k c n r f m k' ri ba ty si va a b).cells [] hs x j).Wp (EndLv Tryz.prog (· = plan0))
  | 0, j, hs, x, hd => by
    obtain rfl : j = nn := by omega
    refine ⟨fun h => ?_, fun h => ⟨hw, rfl⟩⟩
    simp at h
  | d + 1, j, hs, x, hd => by
    have hj : j < nn := by omega
    refine ⟨fun h => ⟨by omega, i_eq (W_succ hj (by omega)), trivial, ?_⟩, fun h => ⟨hw, rfl⟩⟩
    refine EndsF.els (by kernel_rfl) (.same _ (.same _ (.same _ (.imap (u' := []) (hs' := imH [(p j, i (q j))] hs) (x' := imV [(p j, i (q j))] x) (fun _ => rfl) (fun _ _ => rfl) .nil)))) ?_
    exact endsF_of G1 (t9 k c n r f m k' ri ba ty si va a b nn p q _ _ (j + 1)) (wp9 hw hn d (j + 1) _ _ (by omega))
end
def gi2 : List AV → Int
  | [_, .int .i64 n] => n
  | _ => 0
def gi1 : List AV → Int
  | [.int .i64 n, _] => n
  | _ => 0
def F9 : List AV → Option (T AV)
  | [.agg [.int .i64 k, .int .i64 c, .int .i64 n, .int .i64 r, .int .i64 f, .int .i64 m, .int .i64 k', .int .u64 a, .int .u64 b, .int .i64 ri, .int .i64 ba, .int .i64 ty, .int .i64 si, .int .i64 va], .ls nn g 2 false] =>
    some (.ck (isW k c n r f m = false ∧ nn ≤ 100000 ∧ ∀ j, j < nn → g j = [i (gi1 (g j)), i (gi2 (g j))]) (.leaf plan0))
  | _ => none
theorem c9 : FnSpec Tryz.prog 9 F9 := by
  intro w t h
  unfold F9 at h
  split at h
  · rename_i k c n r f m k' a b ri ba ty si va nn g
    simp only [Option.some.injEq] at h; subst h
    rintro v ⟨⟨hw, hn, hg⟩, hv⟩
    have hv : plan0 = v := hv
    subst hv
    refine FnCall_args (likes_cons Like.rfl (likes_ls (vs := []) hg (fun h => h))) ?_
    exact fn_of_fin G1 (by kernel_rfl) (e9 k c n r f m k' ri ba ty si va a b nn _ _) (wp9 hw hn nn 0 _ _ (by omega))
  · cases h
end
end Go.Proofs.YtjmckfbchpbdoaaGreat
