/- redo.check: what is wrong with pages. -/
import Derived.Test.YtdilkgcoecipjaaSteps
import Derived.Maps.OwnOps
import Derived.Maps.Views
import Derived.Maps.OwnSet
namespace Go.Proofs.Ytdilkgcoecipjaa
open Go.RowKit Go.Maps
set_option linter.unusedVariables false

/-- may this page be written, behind those? -/
def okAt (n : Nat) (before : List (Int × List UInt8)) (q : Int × List UInt8) : Bool :=
  decide (401 ≤ q.1 ∧ q.1 < (n : Int)) && !(before.any fun p => p.1 == q.1) && decide (q.2.length ≤ 504)
def scanPuts (n : Nat) : List (Int × List UInt8) → List (Int × List UInt8) → Int
  | _, [] => 0
  | before, q :: r => if okAt n before q then scanPuts n (before ++ [q]) r else 1
def chk (n : Nat) (ls : List (Int × List UInt8)) : Int :=
  if ls.length = 0 then 1 else if 400 < ls.length then 4 else scanPuts n [] ls

theorem scanPuts_step {n j : Nat} {ls : List (Int × List UInt8)} {q : Int × List UInt8} (hq : ls[j]? = some q) :
    scanPuts n (ls.take j) (ls.drop j) = if okAt n (ls.take j) q then scanPuts n (ls.take (j + 1)) (ls.drop (j + 1)) else 1 := by
  obtain ⟨hlt, he⟩ := List.getElem?_eq_some_iff.1 hq
  rw [List.drop_eq_getElem_cons hlt, he, scanPuts, List.take_add_one, hq]
  rfl

/-- a map that counts the places of pages, each there once -/
def Seen (D : DataW Unit) (before : List (Int × List UInt8)) : Prop :=
  ∀ a : Int, (Lit.int .i64 a).wf = true → D.atKey (.int .i64 a) (.lit (.int .i64 0)) = .lit (.int .i64 (if before.any (fun p => p.1 == a) then 1 else 0))

theorem mapKeyed : Keyed Try.prog 3 := int_keyed Try.underlying3
theorem mapZero (w : World) : (zeroValue 3).run Try.prog w = .ok (.int .i64 0) w := by kernel_rfl

theorem Seen.nil : Seen (.map []) [] := fun a _ => rfl
theorem Seen.count {D : DataW Unit} {before : List (Int × List UInt8)} (h : Seen D before) {a c : Int} (hw : (Lit.int .i64 a).wf = true) (hat : D.atKey (.int .i64 a) (.lit (.int .i64 0)) = .lit (.int .i64 c)) :
    c = if before.any (fun p => p.1 == a) then 1 else 0 := by
  have h1 := h a hw
  rw [hat] at h1
  injection h1 with h1
  injection h1
theorem put_count {D : DataW Unit} (hD : IsMap D) {a c m : Int} (hat : (D.put (.int .i64 a) (.lit (.int .i64 m))).atKey (.int .i64 a) (.lit (.int .i64 0)) = .lit (.int .i64 c)) : c = m := by
  rw [atKey_put_same hD (by simp [WideAt.IsKeyLit])] at hat
  injection hat with h1
  injection h1 with _ h2
  exact h2.symm
theorem Seen.put {D : DataW Unit} {before : List (Int × List UInt8)} (h : Seen D before) (hD : IsMap D) {q : Int × List UInt8} (hq : before.any (fun p => p.1 == q.1) = false) : Seen (D.put (.int .i64 q.1) (.lit (.int .i64 1))) (before ++ [q]) := fun a ha => by
  by_cases hc : a = q.1
  · subst hc
    rw [atKey_put_same hD (by simp [WideAt.IsKeyLit])]
    simp
  · rw [atKey_put_other (by intro h2; injection h2 with _ h3; exact hc h3), h a ha, List.any_append]
    have h2 : ([q].any fun p => p.1 == a) = false := by simp; exact fun h2 => hc h2.symm
    rw [h2, Bool.or_false]

end Go.Proofs.Ytdilkgcoecipjaa
