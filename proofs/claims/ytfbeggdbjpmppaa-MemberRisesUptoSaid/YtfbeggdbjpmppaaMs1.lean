/- RisPre, joined. -/
import Derived.Test.YtfbeggdbjpmppaaMr2
set_option linter.unusedVariables false
set_option linter.unusedSimpArgs false
/- MemberRises: variables that hold a view and a proposal. -/
namespace Go.Proofs.Ytfbeggdbjpmppaa
open Go.RowKit
/-- A variable that holds a view; its row lies in no block of F. -/
structure VV (w : World) (F : List Nat) (u : Nat) (v : Vid) (ms : List Mb) (A : Option Addr) (c : Nat) : Prop where
  at_ : ViAt w u v A ms.length c
  row : RowF w F 3 eMb A ms
  lt : u < w.heap.size
structure PV (w : World) (F : List Nat) (u n : Nat) (p : Pr) (ls lv : List Int) (S : Option Addr) (cS : Nat) (V : Option Addr) (cV : Nat) : Prop where
  at_ : PVar w u S n cS V n cV p
  rS : RowF w F 1 eInt S ls
  rV : RowF w F 1 eInt V lv
  lt : u < w.heap.size
section
variable {w w' : World} {F : List Nat} {u n b : Nat} {v : Vid} {ms : List Mb} {A : Option Addr} {c : Nat} {p : Pr} {ls lv : List Int} {S : Option Addr} {cS : Nat} {V : Option Addr} {cV : Nat}
theorem VV.below (h : VV w F u v ms A c) (hb : Below w.heap.size w w') : VV w' F u v ms A c := ⟨h.at_.same (hb.block u h.lt), h.row.below hb, Nat.lt_of_lt_of_le h.lt hb.size⟩
theorem VV.grown (h : VV w F u v ms A c) (hg : w.grownBy w' (some b)) (hb : b ∈ F) (hne : b ≠ u) : VV w' F u v ms A c :=
  ⟨h.at_.same (hg.block u h.lt (by intro e; injection e with e; exact hne e.symm)), h.row.keep hg.size (fun k hk hn => hg.block k hk (by intro e; injection e with e; subst e; exact hn hb)), Nat.lt_of_lt_of_le h.lt hg.size⟩
theorem PV.below (h : PV w F u n p ls lv S cS V cV) (hb : Below w.heap.size w w') : PV w' F u n p ls lv S cS V cV := ⟨h.at_.same (hb.block u h.lt), h.rS.below hb, h.rV.below hb, Nat.lt_of_lt_of_le h.lt hb.size⟩
theorem PV.grown (h : PV w F u n p ls lv S cS V cV) (hg : w.grownBy w' (some b)) (hb : b ∈ F) (hne : b ≠ u) : PV w' F u n p ls lv S cS V cV :=
  ⟨h.at_.same (hg.block u h.lt (by intro e; injection e with e; exact hne e.symm)), h.rS.keep hg.size (fun k hk hn => hg.block k hk (by intro e; injection e with e; subst e; exact hn hb)), h.rV.keep hg.size (fun k hk hn => hg.block k hk (by intro e; injection e with e; subst e; exact hn hb)), Nat.lt_of_lt_of_le h.lt hg.size⟩
end
theorem ris_sizes {s : St} (h : Ris s) : IntKind.i64.wrap (s.own.rev + 1) = s.own.rev + 1 := by
  have := h.inv.own.rev
  rw [IntKind.wrap_i64]; omega
/-- The first view. -/
theorem first_ag {n s : Nat} {i f : Int} (h : newB n s i f = true) : agV (newSt n s i f).agreed = ⟨f + 1, s, i, f + 1⟩ ∧ agM (newSt n s i f).agreed = [⟨s, i, f + 1⟩] ∧ agT (newSt n s i f).agreed = [(s : Int)] ∧ agE (newSt n s i f).agreed = 0 ∧ (newSt n s i f).agreed.isSome = true := by
  rw [new_agreed h]
  exact ⟨rfl, rfl, rfl, rfl, rfl⟩
theorem install_n (s : St) : s.install.n = s.n ∧ s.install.self = s.self ∧ s.install.inc = s.inc := by
  unfold St.install
  split <;> exact ⟨rfl, rfl, rfl⟩
theorem install_ris2 {t : St} (h : Ris t) (hs : t.agreed.isSome = true) : Ris t.install ∧ t.vid.e < (agV t.agreed).e ∧ holdsI (agM t.agreed) t.self t.inc = t.own.cid ∧ holdsI t.mem t.self t.inc < t.own.cid ∧ 0 < (agT t.agreed).length := by
  cases ha : t.agreed with
  | none => rw [ha] at hs; cases hs
  | some g =>
    obtain ⟨h1, h2, h3, h4, h5, _⟩ := install_ris h ha
    exact ⟨h1, h2, h3, h4, h5⟩
theorem install_same {t : St} (hs : t.agreed.isSome = false) : t.install = t := by
  unfold St.install
  cases ha : t.agreed with
  | none => rfl
  | some g => rw [ha] at hs; cases hs
theorem first_holds (s : Nat) (i c : Int) : holdsI [⟨s, i, c⟩] s i = c := by
  unfold holdsI
  simp
end Go.Proofs.Ytfbeggdbjpmppaa
