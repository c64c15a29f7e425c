/- Messages in memory; the document's find, the law's sameData and sameDatas. -/
import Derived.Test.YtcffhfcjfjfokaaCut
import Derived.Test.YtcffhfcjfjfokaaMidStill
import Derived.Laws.BytesArg
namespace Go.Proofs.Ytcffhfcjfjfokaa
open Go.RowKit
/-- A message: the sender, the number, the stable position, the bytes. -/
structure Dt where
  s : Int
  q : Int
  b : Int
  body : List Int
structure Dr where
  d : Dt
  B : Option Addr
  c : Nat
def eByte (n : Int) : List Value := [.int .u8 n]
def eDr (r : Dr) : List Value := [.int .i64 r.d.s, .int .i64 r.d.q, .int .i64 r.d.b, .slice r.B r.d.body.length r.c]
theorem len_eByte (x : Int) : (eByte x).length = 1 := rfl
theorem one_eByte (x : Int) : ∀ u ∈ eByte x, u.oneCell' = true := by intro u hu; simp [eByte] at hu; subst hu; rfl
theorem len_eDr (x : Dr) : (eDr x).length = 4 := rfl
theorem one_eDr (x : Dr) : ∀ u ∈ eDr x, u.oneCell' = true := by intro u hu; simp [eDr] at hu; rcases hu with rfl | rfl | rfl | rfl <;> rfl
/-- A message's bytes lie there. -/
structure BodyAt (w : World) (N : Nat) (B : Option Addr) (c : Nat) (body : List Int) : Prop where
  row : RowAt w N 1 eByte B body
  len : body.length ≤ c
  cap : c ≤ 9223372036854775807
theorem BodyAt.below {w w' : World} {N N' : Nat} {B : Option Addr} {c : Nat} {body : List Int} (h : BodyAt w N B c body) (hb : Below N' w w') (hN : N ≤ N') : BodyAt w' N B c body := ⟨h.row.below hb hN, h.len, h.cap⟩
theorem BodyAt.more {w : World} {N N' : Nat} {B : Option Addr} {c : Nat} {body : List Int} (h : BodyAt w N B c body) (hN : N ≤ N') : BodyAt w N' B c body := ⟨h.row.more hN, h.len, h.cap⟩
/-- A list of messages. -/
structure Drs (w : World) (N : Nat) (A : Option Addr) (rs : List Dr) : Prop where
  row : RowAt w N 4 eDr A rs
  each : ∀ r ∈ rs, BodyAt w N r.B r.c r.d.body
def Dts (w : World) (N : Nat) (A : Option Addr) (ds : List Dt) : Prop := ∃ rs : List Dr, rs.map Dr.d = ds ∧ Drs w N A rs
theorem Dts.below {w w' : World} {N N' : Nat} {A : Option Addr} {ds : List Dt} (h : Dts w N A ds) (hb : Below N' w w') (hN : N ≤ N') : Dts w' N A ds := by
  obtain ⟨rs, e, h1, h2⟩ := h
  exact ⟨rs, e, h1.below hb hN, fun r hr => (h2 r hr).below hb hN⟩
theorem Dts.more {w : World} {N N' : Nat} {A : Option Addr} {ds : List Dt} (h : Dts w N A ds) (hN : N ≤ N') : Dts w N' A ds := by
  obtain ⟨rs, e, h1, h2⟩ := h
  exact ⟨rs, e, h1.more hN, fun r hr => (h2 r hr).more hN⟩
theorem Dts.at_ {w : World} {N : Nat} {A : Option Addr} {ds : List Dt} (h : Dts w N A ds) {k : Nat} (hk : k < ds.length) :
    ∃ g o d B c, A = some ⟨g, o, none⟩ ∧ g < N ∧ Hid (ds[k]? = some d) ∧ w.cell? ⟨g, o + k * 4, none⟩ = some (.int .i64 d.s) ∧ w.cell? ⟨g, o + k * 4 + 1, none⟩ = some (.int .i64 d.q) ∧ w.cell? ⟨g, o + k * 4 + 2, none⟩ = some (.int .i64 d.b) ∧
      w.cell? ⟨g, o + k * 4 + 3, none⟩ = some (.slice B d.body.length c) ∧ BodyAt w N B c d.body := by
  obtain ⟨rs, rfl, h1, h2⟩ := h
  rw [List.length_map] at hk
  obtain ⟨g, o, e, hg, hc⟩ := h1 (by omega)
  have hr := List.getElem?_eq_getElem hk
  refine ⟨g, o, rs[k].d, rs[k].B, rs[k].c, e, hg, ?_, hc k _ hr 0 _ rfl, hc k _ hr 1 _ rfl, hc k _ hr 2 _ rfl, hc k _ hr 3 _ rfl, h2 _ (List.getElem_mem hk)⟩
  show (rs.map Dr.d)[k]? = _
  rw [List.getElem?_map, hr]; rfl
/-- Bytes as a string. -/
theorem run_body {w : World} {N : Nat} {B : Option Addr} {c : Nat} {body : List Int} (h : RowAt w N 1 eByte B body) : (convert 52 9 (.slice B body.length c)).run Try.prog w = .ok (.string (strOfNums body)) w := by
  by_cases h0 : 0 < body.length
  · obtain ⟨b, off, rfl, hb, hc⟩ := h h0
    exact run_convert_bytes_arg (P := Try.prog) w 52 5 Try.underlying52 Try.underlying5 b off body.length c body rfl (fun i hi => by
      have := hc i body[i] (List.getElem?_eq_getElem hi) 0 _ rfl
      simpa [List.getD, List.getElem?_eq_getElem hi] using this) 9 Try.underlying9
  · obtain rfl : body = [] := List.eq_nil_of_length_eq_zero (by omega)
    cases B with
    | none => exact run_convert_bytes_nil (P := Try.prog) w 52 5 Try.underlying52 Try.underlying5 0 c 9 Try.underlying9
    | some a =>
      rw [run_convert_bytes_string w 52 9 5 _ _ c Try.underlying52 Try.underlying5 Try.underlying9]
      exact run_bytesToString (P := Try.prog) w a 0 c [] (by simp [loadCells, loadCellsFrom])
set_option maxHeartbeats 2000000 in
theorem sameData_yes (d : Dt) (B B' : Option Addr) (c c' N : Nat) (w : World) (hN : N ≤ w.heap.size) (h : RowAt w N 1 eByte B d.body) (h' : RowAt w N 1 eByte B' d.body) :
    Calls Try.prog 58 #[.agg #[.int .i64 d.s, .int .i64 d.q, .int .i64 d.b, .slice B d.body.length c], .agg #[.int .i64 d.s, .int .i64 d.q, .int .i64 d.b, .slice B' d.body.length c']] w fun x w' => x = .returned (.bool true) ∧ Below w.heap.size w w' := by
  have hbx := below_box2 w #[.int .i64 d.s, .int .i64 d.q, .int .i64 d.b, .slice B d.body.length c] 113 #[.int .i64 d.s, .int .i64 d.q, .int .i64 d.b, .slice B' d.body.length c'] 113
  have e1 := run_body (c := c) (h.below hbx hN)
  have e2 := run_body (c := c') (h'.below hbx hN)
  replace hbx := Lib.hid hbx
  go_enter Try.func58, Try.ntmps58
  go_wp2
  go_ret
  exact ⟨rfl, hbx.out⟩
set_option maxRecDepth 100000 in
set_option maxHeartbeats 4000000 in
theorem sameDatas_yes (A B : Option Addr) (cA cB N : Nat) (ds : List Dt) (w : World) (hN : N ≤ w.heap.size) (hA : Dts w N A ds) (hB : Dts w N B ds) (hl : ds.length ≤ 9223372036854775807) :
    Calls Try.prog 22 #[.slice A ds.length cA, .slice B ds.length cB] w fun x w' => x = .returned (.bool true) ∧ Below w.heap.size w w' := by
  go_enter Try.func22, Try.ntmps22
  go_wp2
  go_loopw [5] (fun k wr => ∃ q : Nat, k = .int .i64 q ∧ q ≤ ds.length ∧ Below w.heap.size w wr) (fun k _ => ds.length - (intOf k).toNat)
  case atStart => exact ⟨0, rfl, by omega, Below.refl _ _⟩
  case round =>
    obtain ⟨q, rfl, hq, hb⟩ := hrel
    have hsz := hb.size
    by_cases hlt : q < ds.length
    · obtain ⟨g, o, d, X, c, hAe, hg, hd, c0, c1, c2, c3, hX⟩ := (hA.below hb hN).at_ hlt
      obtain ⟨g', o', d', X', c', hBe, hg', hd', k0, k1, k2, k3, hX'⟩ := (hB.below hb hN).at_ hlt
      obtain rfl : d = d' := by have := hd'.out; rw [hd.out] at this; injection this
      subst hAe hBe
      have h58 := Lib.hid (sameData_yes d X X' c c' N wr.drew (by show N ≤ wr.heap.size; omega) hX.row hX'.row)
      clear hX hX' hA hB
      go_wp2
      refine wp_region_mid 8 (by kernel_rfl) rfl (by kernel_rfl) ?_
      simp only [List.take_succ_cons, List.take_zero]
      repeat (refine WS.step (fun K hK => ?_); go_simp; refine hK.out _ ?_; clear hK K)
      refine WS.nil ?_
      intro K hK
      go_simp
      go_at_call 58
      refine h58.out.mono ?_
      rintro e w2 ⟨rfl, hbw2⟩
      go_wp2_with fail
      refine hK.out _ _ ?_
      clear hK K
      have hb2 := (Below.drew hb).trans (hbw2.mono (by show _ ≤ wr.heap.size; omega))
      simp only [List.drop_succ_cons, List.drop_zero]
      repeat (refine WS.step (fun K hK => ?_); go_simp; refine hK.out _ ?_; clear hK K)
      refine WS.nil ?_
      go_wp2
      go_roundw
      case rel => go_light; exact ⟨q + 1, by go_num, by omega, hb2⟩
      case measure => go_light; simp [intOf]; omega
    · go_wp2
      go_ret
      exact ⟨rfl, hb⟩
/-- The first message of that sender and number; -1: there is none. -/
def FindIs (ds : List Dt) (s q r : Int) : Prop := (r = -1 ∧ ∀ d ∈ ds, ¬ (d.s = s ∧ d.q = q)) ∨ (∃ (i : Nat) (d : Dt), ds[i]? = some d ∧ d.s = s ∧ d.q = q ∧ r = i ∧ upto (fun d => ¬ (d.s = s ∧ d.q = q)) ds i)
set_option maxRecDepth 100000 in
set_option maxHeartbeats 4000000 in
theorem find_any (A : Option Addr) (cA N : Nat) (ds : List Dt) (s q : Int) (w : World) (hN : N ≤ w.heap.size) (hA : Dts w N A ds) (hl : ds.length ≤ 9223372036854775807) :
    Calls Try.prog 56 #[.slice A ds.length cA, .agg #[.int .i64 s, .int .i64 q]] w fun x w' => (∃ r, x = .returned (.int .i64 r) ∧ FindIs ds s q r) ∧ Below w.heap.size w w' := by
  go_enter Try.func56, Try.ntmps56
  go_wp2
  go_loopw [5] (fun k wr => ∃ i : Nat, k = .int .i64 i ∧ i ≤ ds.length ∧ upto (fun d => ¬ (d.s = s ∧ d.q = q)) ds i ∧ Below (w.heap.size + 1) (box1 w #[.int .i64 s, .int .i64 q] 66) wr) (fun k _ => ds.length - (intOf k).toNat)
  case atStart => exact ⟨0, rfl, by omega, upto_zero _ _, Below.refl _ _⟩
  case round =>
    obtain ⟨i, rfl, hi, hup, hb⟩ := hrel
    replace hup := Lib.hid hup
    obtain ⟨hb0, hc, -, hsz⟩ := box1_facts hb
    have e0 := hc 0
    have e1 := hc 1
    simp at e0 e1
    clear hc
    by_cases hlt : i < ds.length
    · obtain ⟨g, o, d, X, c, hAe, hg, hd, c0, c1, c2, c3, hX⟩ := (hA.below hb0 hN).at_ hlt
      subst hAe
      clear hA hX
      by_cases h1 : d.s = s
      · by_cases h2 : d.q = q
        · have hF := Lib.hid (show FindIs ds s q i from .inr ⟨i, d, hd.out, h1, h2, rfl, hup.out⟩)
          have t1 : (d.s == s) = true := by simpa using h1
          have t2 : (d.q == q) = true := by simpa using h2
          clear h1 h2
          go_wp2
          go_quiet (fail)
          go_wp2
          go_ret
          exact ⟨⟨i, rfl, hF.out⟩, below_drewN hb0 _⟩
        · have hne := Lib.hid (show ¬ (d.s = s ∧ d.q = q) from fun h => h2 h.2)
          have t1 : (d.s == s) = true := by simpa using h1
          have t2 : (d.q == q) = false := by simpa using h2
          clear h1 h2
          go_wp2
          go_quiet (fail)
          go_wp2
          go_roundw
          case rel => go_light; exact ⟨i + 1, by go_num, by omega, upto_succ hup.out (fun z hz => by rw [hd.out] at hz; cases hz; exact hne.out), below_drewN hb _⟩
          case measure => go_light; simp [intOf]; omega
      · have hne := Lib.hid (show ¬ (d.s = s ∧ d.q = q) from fun h => h1 h.1)
        have t1 : (d.s == s) = false := by simpa using h1
        clear h1
        go_wp2
        go_quiet (fail)
        go_wp2
        go_roundw
        case rel => go_light; exact ⟨i + 1, by go_num, by omega, upto_succ hup.out (fun z hz => by rw [hd.out] at hz; cases hz; exact hne.out), below_drewN hb _⟩
        case measure => go_light; simp [intOf]; omega
    · have hF := Lib.hid (show FindIs ds s q (-1) from .inl ⟨rfl, upto_all hup.out (by omega)⟩)
      go_wp2
      go_ret
      exact ⟨⟨-1, rfl, hF.out⟩, hb0⟩
end Go.Proofs.Ytcffhfcjfjfokaa
