/- Data StoLaw HeldLex Ord Ord2, joined. -/
import Derived.Laws.BytesArg
import Derived.OrdersHeld
import Derived.Deep.Quiet
import Derived.StillTail
import Derived.RegionTactic
import Derived.Lib.Hide
import Derived.Deep.RegionHeld3
import Derived.Test.YtcffhfcjfjfokaaSw2
set_option linter.unusedVariables false
set_option linter.unusedSimpArgs false
/- Messages in memory; the document's find, the law's sameData and sameDatas. -/
namespace Go.Proofs.Ytcffhfcjfjfokaa
open Go.RowKit
/-- A message: the sender, the number, the stable position, the bytes. -/
structure Dt where
  s : Int
  q : Int
  b : Int
  body : List Int
structure Dr where
  d : Dt
  B : Option Addr
  c : Nat
def eByte (n : Int) : List Value := [.int .u8 n]
def eDr (r : Dr) : List Value := [.int .i64 r.d.s, .int .i64 r.d.q, .int .i64 r.d.b, .slice r.B r.d.body.length r.c]
theorem len_eByte (x : Int) : (eByte x).length = 1 := rfl
theorem one_eByte (x : Int) : ∀ u ∈ eByte x, u.oneCell' = true := by intro u hu; simp [eByte] at hu; subst hu; rfl
theorem len_eDr (x : Dr) : (eDr x).length = 4 := rfl
theorem one_eDr (x : Dr) : ∀ u ∈ eDr x, u.oneCell' = true := by intro u hu; simp [eDr] at hu; rcases hu with rfl | rfl | rfl | rfl <;> rfl
/-- A message's bytes lie there. -/
structure BodyAt (w : World) (N : Nat) (B : Option Addr) (c : Nat) (body : List Int) : Prop where
  row : RowAt w N 1 eByte B body
  len : body.length ≤ c
  cap : c ≤ 9223372036854775807
theorem BodyAt.below {w w' : World} {N N' : Nat} {B : Option Addr} {c : Nat} {body : List Int} (h : BodyAt w N B c body) (hb : Below N' w w') (hN : N ≤ N') : BodyAt w' N B c body := ⟨h.row.below hb hN, h.len, h.cap⟩
theorem BodyAt.more {w : World} {N N' : Nat} {B : Option Addr} {c : Nat} {body : List Int} (h : BodyAt w N B c body) (hN : N ≤ N') : BodyAt w N' B c body := ⟨h.row.more hN, h.len, h.cap⟩
/-- A list of messages. -/
structure Drs (w : World) (N : Nat) (A : Option Addr) (rs : List Dr) : Prop where
  row : RowAt w N 4 eDr A rs
  each : ∀ r ∈ rs, BodyAt w N r.B r.c r.d.body
def Dts (w : World) (N : Nat) (A : Option Addr) (ds : List Dt) : Prop := ∃ rs : List Dr, rs.map Dr.d = ds ∧ Drs w N A rs
theorem Dts.below {w w' : World} {N N' : Nat} {A : Option Addr} {ds : List Dt} (h : Dts w N A ds) (hb : Below N' w w') (hN : N ≤ N') : Dts w' N A ds := by
  obtain ⟨rs, e, h1, h2⟩ := h
  exact ⟨rs, e, h1.below hb hN, fun r hr => (h2 r hr).below hb hN⟩
theorem Dts.more {w : World} {N N' : Nat} {A : Option Addr} {ds : List Dt} (h : Dts w N A ds) (hN : N ≤ N') : Dts w N' A ds := by
  obtain ⟨rs, e, h1, h2⟩ := h
  exact ⟨rs, e, h1.more hN, fun r hr => (h2 r hr).more hN⟩
theorem Dts.at_ {w : World} {N : Nat} {A : Option Addr} {ds : List Dt} (h : Dts w N A ds) {k : Nat} (hk : k < ds.length) :
    ∃ g o d B c, A = some ⟨g, o, none⟩ ∧ g < N ∧ Hid (ds[k]? = some d) ∧ w.cell? ⟨g, o + k * 4, none⟩ = some (.int .i64 d.s) ∧ w.cell? ⟨g, o + k * 4 + 1, none⟩ = some (.int .i64 d.q) ∧ w.cell? ⟨g, o + k * 4 + 2, none⟩ = some (.int .i64 d.b) ∧
      w.cell? ⟨g, o + k * 4 + 3, none⟩ = some (.slice B d.body.length c) ∧ BodyAt w N B c d.body := by
  obtain ⟨rs, rfl, h1, h2⟩ := h
  rw [List.length_map] at hk
  obtain ⟨g, o, e, hg, hc⟩ := h1 (by omega)
  have hr := List.getElem?_eq_getElem hk
  refine ⟨g, o, rs[k].d, rs[k].B, rs[k].c, e, hg, ?_, hc k _ hr 0 _ rfl, hc k _ hr 1 _ rfl, hc k _ hr 2 _ rfl, hc k _ hr 3 _ rfl, h2 _ (List.getElem_mem hk)⟩
  show (rs.map Dr.d)[k]? = _
  rw [List.getElem?_map, hr]; rfl
/-- Bytes as a string. -/
theorem run_body {w : World} {N : Nat} {B : Option Addr} {c : Nat} {body : List Int} (h : RowAt w N 1 eByte B body) : (convert 52 9 (.slice B body.length c)).run Try.prog w = .ok (.string (strOfNums body)) w := by
  by_cases h0 : 0 < body.length
  · obtain ⟨b, off, rfl, hb, hc⟩ := h h0
    exact run_convert_bytes_arg (P := Try.prog) w 52 5 Try.underlying52 Try.underlying5 b off body.length c body rfl (fun i hi => by
      have := hc i body[i] (List.getElem?_eq_getElem hi) 0 _ rfl
      simpa [List.getD, List.getElem?_eq_getElem hi] using this) 9 Try.underlying9
  · obtain rfl : body = [] := List.eq_nil_of_length_eq_zero (by omega)
    cases B with
    | none => exact run_convert_bytes_nil (P := Try.prog) w 52 5 Try.underlying52 Try.underlying5 0 c 9 Try.underlying9
    | some a =>
      rw [run_convert_bytes_string w 52 9 5 _ _ c Try.underlying52 Try.underlying5 Try.underlying9]
      exact run_bytesToString (P := Try.prog) w a 0 c [] (by simp [loadCells, loadCellsFrom])
set_option maxHeartbeats 2000000 in
theorem sameData_yes (d : Dt) (B B' : Option Addr) (c c' N : Nat) (w : World) (hN : N ≤ w.heap.size) (h : RowAt w N 1 eByte B d.body) (h' : RowAt w N 1 eByte B' d.body) :
    Calls Try.prog 58 #[.agg #[.int .i64 d.s, .int .i64 d.q, .int .i64 d.b, .slice B d.body.length c], .agg #[.int .i64 d.s, .int .i64 d.q, .int .i64 d.b, .slice B' d.body.length c']] w fun x w' => x = .returned (.bool true) ∧ Below w.heap.size w w' := by
  have hbx := below_box2 w #[.int .i64 d.s, .int .i64 d.q, .int .i64 d.b, .slice B d.body.length c] 113 #[.int .i64 d.s, .int .i64 d.q, .int .i64 d.b, .slice B' d.body.length c'] 113
  have e1 := run_body (c := c) (h.below hbx hN)
  have e2 := run_body (c := c') (h'.below hbx hN)
  replace hbx := Lib.hid hbx
  go_enter Try.func58, Try.ntmps58
  go_wp2
  go_ret
  exact ⟨rfl, hbx.out⟩
set_option maxRecDepth 100000 in
set_option maxHeartbeats 4000000 in
theorem sameDatas_yes (A B : Option Addr) (cA cB N : Nat) (ds : List Dt) (w : World) (hN : N ≤ w.heap.size) (hA : Dts w N A ds) (hB : Dts w N B ds) (hl : ds.length ≤ 9223372036854775807) :
    Calls Try.prog 22 #[.slice A ds.length cA, .slice B ds.length cB] w fun x w' => x = .returned (.bool true) ∧ Below w.heap.size w w' := by
  go_enter Try.func22, Try.ntmps22
  go_wp2
  go_loopw [5] (fun k wr => ∃ q : Nat, k = .int .i64 q ∧ q ≤ ds.length ∧ Below w.heap.size w wr) (fun k _ => ds.length - (intOf k).toNat)
  case atStart => exact ⟨0, rfl, by omega, Below.refl _ _⟩
  case round =>
    obtain ⟨q, rfl, hq, hb⟩ := hrel
    have hsz := hb.size
    by_cases hlt : q < ds.length
    · obtain ⟨g, o, d, X, c, hAe, hg, hd, c0, c1, c2, c3, hX⟩ := (hA.below hb hN).at_ hlt
      obtain ⟨g', o', d', X', c', hBe, hg', hd', k0, k1, k2, k3, hX'⟩ := (hB.below hb hN).at_ hlt
      obtain rfl : d = d' := by have := hd'.out; rw [hd.out] at this; injection this
      subst hAe hBe
      have h58 := Lib.hid (sameData_yes d X X' c c' N wr.drew (by show N ≤ wr.heap.size; omega) hX.row hX'.row)
      clear hX hX' hA hB
      go_wp2
      refine wp_region_mid 8 (by kernel_rfl) rfl (by kernel_rfl) ?_
      simp only [List.take_succ_cons, List.take_zero]
      repeat (refine WS.step (fun K hK => ?_); go_simp; refine hK.out _ ?_; clear hK K)
      refine WS.nil ?_
      intro K hK
      go_simp
      go_at_call 58
      refine h58.out.mono ?_
      rintro e w2 ⟨rfl, hbw2⟩
      go_wp2_with fail
      refine hK.out _ _ ?_
      clear hK K
      have hb2 := (Below.drew hb).trans (hbw2.mono (by show _ ≤ wr.heap.size; omega))
      simp only [List.drop_succ_cons, List.drop_zero]
      repeat (refine WS.step (fun K hK => ?_); go_simp; refine hK.out _ ?_; clear hK K)
      refine WS.nil ?_
      go_wp2
      go_roundw
      case rel => go_light; exact ⟨q + 1, by go_num, by omega, hb2⟩
      case measure => go_light; simp [intOf]; omega
    · go_wp2
      go_ret
      exact ⟨rfl, hb⟩
/-- The first message of that sender and number; -1: there is none. -/
def FindIs (ds : List Dt) (s q r : Int) : Prop := (r = -1 ∧ ∀ d ∈ ds, ¬ (d.s = s ∧ d.q = q)) ∨ (∃ (i : Nat) (d : Dt), ds[i]? = some d ∧ d.s = s ∧ d.q = q ∧ r = i ∧ upto (fun d => ¬ (d.s = s ∧ d.q = q)) ds i)
set_option maxRecDepth 100000 in
set_option maxHeartbeats 4000000 in
theorem find_any (A : Option Addr) (cA N : Nat) (ds : List Dt) (s q : Int) (w : World) (hN : N ≤ w.heap.size) (hA : Dts w N A ds) (hl : ds.length ≤ 9223372036854775807) :
    Calls Try.prog 56 #[.slice A ds.length cA, .agg #[.int .i64 s, .int .i64 q]] w fun x w' => (∃ r, x = .returned (.int .i64 r) ∧ FindIs ds s q r) ∧ Below w.heap.size w w' := by
  go_enter Try.func56, Try.ntmps56
  go_wp2
  go_loopw [5] (fun k wr => ∃ i : Nat, k = .int .i64 i ∧ i ≤ ds.length ∧ upto (fun d => ¬ (d.s = s ∧ d.q = q)) ds i ∧ Below (w.heap.size + 1) (box1 w #[.int .i64 s, .int .i64 q] 66) wr) (fun k _ => ds.length - (intOf k).toNat)
  case atStart => exact ⟨0, rfl, by omega, upto_zero _ _, Below.refl _ _⟩
  case round =>
    obtain ⟨i, rfl, hi, hup, hb⟩ := hrel
    replace hup := Lib.hid hup
    obtain ⟨hb0, hc, -, hsz⟩ := box1_facts hb
    have e0 := hc 0
    have e1 := hc 1
    simp at e0 e1
    clear hc
    by_cases hlt : i < ds.length
    · obtain ⟨g, o, d, X, c, hAe, hg, hd, c0, c1, c2, c3, hX⟩ := (hA.below hb0 hN).at_ hlt
      subst hAe
      clear hA hX
      by_cases h1 : d.s = s
      · by_cases h2 : d.q = q
        · have hF := Lib.hid (show FindIs ds s q i from .inr ⟨i, d, hd.out, h1, h2, rfl, hup.out⟩)
          have t1 : (d.s == s) = true := by simpa using h1
          have t2 : (d.q == q) = true := by simpa using h2
          clear h1 h2
          go_wp2
          go_quiet (fail)
          go_wp2
          go_ret
          exact ⟨⟨i, rfl, hF.out⟩, below_drewN hb0 _⟩
        · have hne := Lib.hid (show ¬ (d.s = s ∧ d.q = q) from fun h => h2 h.2)
          have t1 : (d.s == s) = true := by simpa using h1
          have t2 : (d.q == q) = false := by simpa using h2
          clear h1 h2
          go_wp2
          go_quiet (fail)
          go_wp2
          go_roundw
          case rel => go_light; exact ⟨i + 1, by go_num, by omega, upto_succ hup.out (fun z hz => by rw [hd.out] at hz; cases hz; exact hne.out), below_drewN hb _⟩
          case measure => go_light; simp [intOf]; omega
      · have hne := Lib.hid (show ¬ (d.s = s ∧ d.q = q) from fun h => h1 h.1)
        have t1 : (d.s == s) = false := by simpa using h1
        clear h1
        go_wp2
        go_quiet (fail)
        go_wp2
        go_roundw
        case rel => go_light; exact ⟨i + 1, by go_num, by omega, upto_succ hup.out (fun z hz => by rw [hd.out] at hz; cases hz; exact hne.out), below_drewN hb _⟩
        case measure => go_light; simp [intOf]; omega
    · have hF := Lib.hid (show FindIs ds s q (-1) from .inl ⟨rfl, upto_all hup.out (by omega)⟩)
      go_wp2
      go_ret
      exact ⟨⟨-1, rfl, hF.out⟩, hb0⟩
end Go.Proofs.Ytcffhfcjfjfokaa
/- Layer 8: a store as a plain machine: what each call answers and what it leaves. No program in sight. -/
namespace Go.Proofs.Ytcffhfcjfjfokaa
def Fl.zero : Fl := ⟨0, 0, 0, 0, 0, [], []⟩
/-- What is kept of a node. -/
structure Kp where
  inc : Int
  f : Fl
def Kp.zero : Kp := ⟨0, Fl.zero⟩
structure Sto where
  n : Nat
  kept : List Kp
  ve : Int
  vl : Int
  vi : Int
  vc : Int
  msgs : List Dt
def stoNew (n : Nat) : Sto := ⟨n, List.replicate n Kp.zero, 0, 0, 0, 0, []⟩
def Sto.kp (s : Sto) (q : Nat) : Kp := s.kept[q]?.getD Kp.zero
open Classical in
/-- Take: the error, what is left. -/
noncomputable def Sto.take (s : Sto) (q inc : Int) (f : Fl) : Int × Sto :=
  if q < 0 ∨ (s.n : Int) ≤ q ∨ inc < 1 ∨ 4611686018427387904 < inc ∨ soundB f = false ∨ f.have_.length ≠ s.n then (1, s)
  else if inc < (s.kp q.toNat).inc then (50, s)
  else if (s.kp q.toNat).inc = inc ∧ f.e < (s.kp q.toNat).f.e then (51, s)
  else if (s.kp q.toNat).inc = inc ∧ f.e = (s.kp q.toNat).f.e then (if f = (s.kp q.toNat).f then 0 else 82, s)
  else (0, { s with kept := s.kept.set q.toNat ⟨inc, f⟩ })
/-- A member: its node, its incarnation. -/
structure Mm where
  p : Int
  i : Int
  c : Int
/-- Is the member's content of that view here? -/
def Sto.hereB (s : Sto) (e l i c : Int) (m : Mm) : Bool :=
  decide (0 ≤ m.p ∧ m.p < s.n) && (decide ((s.kp m.p.toNat).inc ≠ 0) && decide ((s.kp m.p.toNat).inc = m.i) && vidEq (s.kp m.p.toNat).f.e (s.kp m.p.toNat).f.l (s.kp m.p.toNat).f.i (s.kp m.p.toNat).f.c e l i c)
def Sto.missing (s : Sto) (e l i c : Int) (who : List Mm) : List Int := (who.filter fun m => !s.hereB e l i c m).map (·.p)
def Sto.contents (s : Sto) (e l i c : Int) (who : List Mm) : Option (List Fl) :=
  if who.all (s.hereB e l i c) then some (who.map fun m => (s.kp m.p.toNat).f) else none
def Sto.begin_ (s : Sto) (e l i c : Int) : Sto := { s with ve := e, vl := l, vi := i, vc := c, msgs := [] }
def aheadB (a b : Dt) : Bool := decide (a.s < b.s ∨ (a.s = b.s ∧ a.q < b.q))
def Sorted (l : List Dt) : Prop := l.Pairwise fun a b => aheadB a b = true
def dtB (n : Nat) (d : Dt) : Bool := decide (0 ≤ d.s ∧ d.s < n ∧ 1 ≤ d.q ∧ d.q ≤ 4611686018427387904 ∧ 0 ≤ d.b ∧ d.b ≤ 4611686018427387904 ∧ d.body.length ≤ 256)
/-- Does each message of the first k stand behind the one ahead of it? -/
def riseB (l : List Dt) : Bool := match l with
  | a :: b :: r => aheadB a b && riseB (b :: r)
  | _ => true
def fitsB (n : Nat) (e l i c : Int) (ms : List Dt) : Bool := wholeB e l i c && decide (ms.length ≤ 128) && ms.all (dtB n) && riseB ms
/-- One more message of a rising list. -/
def ins (d : Dt) : List Dt → List Dt
  | [] => [d]
  | x :: l => if aheadB d x then d :: x :: l else x :: ins d l
def keyB (d x : Dt) : Bool := decide (x.s = d.s ∧ x.q = d.q)
open Classical in
/-- The messages that come join those that are there; none: two contradict one another. -/
noncomputable def addTo (old l : List Dt) : List Dt → Option (List Dt)
  | [] => some l
  | d :: r => match old.find? (keyB d) with
    | some x => if x.b = d.b ∧ x.body = d.body then addTo old l r else none
    | none => addTo old (ins d l) r
noncomputable def Sto.add (s : Sto) (e l i c : Int) (ms : List Dt) : Int × Sto :=
  if fitsB s.n e l i c ms = false then (1, s)
  else if ¬ (e = s.ve ∧ l = s.vl ∧ i = s.vi ∧ c = s.vc) then (80, s)
  else match addTo s.msgs s.msgs ms with
    | none => (82, s)
    | some r => if 128 < r.length then (42, s) else (0, { s with msgs := r })
/-- What holds of a store. -/
structure SInv (s : Sto) : Prop where
  n1 : 1 ≤ s.n
  n2 : s.n ≤ 16
  len : s.kept.length = s.n
  kept : ∀ k ∈ s.kept, k = Kp.zero ∨ (1 ≤ k.inc ∧ Sound k.f)
  sort : Sorted s.msgs
  lenM : s.msgs.length ≤ 128
  each : ∀ d ∈ s.msgs, dtB s.n d = true
theorem new_sinv {n : Nat} (h1 : 1 ≤ n) (h2 : n ≤ 16) : SInv (stoNew n) :=
  ⟨h1, h2, by simp [stoNew], fun k hk => .inl (List.eq_of_mem_replicate hk), List.Pairwise.nil, Nat.zero_le _, fun d hd => by cases hd⟩
theorem kp_of {s : Sto} (h : SInv s) (q : Nat) : s.kp q = Kp.zero ∨ (1 ≤ (s.kp q).inc ∧ Sound (s.kp q).f) := by
  unfold Sto.kp
  cases hk : s.kept[q]? with
  | none => exact .inl rfl
  | some k => exact h.kept k (List.mem_of_getElem? hk)
theorem take_sinv {s : Sto} (h : SInv s) (q inc : Int) (f : Fl) : SInv (s.take q inc f).2 := by
  unfold Sto.take
  split
  · exact h
  · rename_i h1
    split
    · exact h
    · split
      · exact h
      · split
        · split <;> exact h
        · have hs : Sound f := by
            cases hb : soundB f with
            | true => exact soundB_iff.1 hb
            | false => exact absurd (.inr (.inr (.inr (.inr (.inl hb))))) h1
          refine ⟨h.n1, h.n2, by show (s.kept.set _ _).length = _; rw [List.length_set]; exact h.len, fun k hk => ?_, h.sort, h.lenM, h.each⟩
          rcases List.mem_or_eq_of_mem_set hk with e | e
          · exact h.kept k e
          · subst e; exact .inr ⟨by show 1 ≤ inc; omega, hs⟩
theorem begin_sinv {s : Sto} (h : SInv s) (e l i c : Int) : SInv (s.begin_ e l i c) := ⟨h.n1, h.n2, h.len, h.kept, List.Pairwise.nil, Nat.zero_le _, fun d hd => by cases hd⟩
theorem ahead_trans {a b c : Dt} (h1 : aheadB a b = true) (h2 : aheadB b c = true) : aheadB a c = true := by
  unfold aheadB at *; simp at *; omega
theorem ins_mem {d x : Dt} : ∀ {l : List Dt}, x ∈ ins d l → x = d ∨ x ∈ l
  | [], h => by simp [ins] at h; exact .inl h
  | y :: l, h => by
    unfold ins at h
    split at h
    · rcases List.mem_cons.1 h with e | e
      · exact .inl e
      · exact .inr e
    · rcases List.mem_cons.1 h with e | e
      · exact .inr (by rw [e]; exact List.mem_cons_self ..)
      · rcases ins_mem e with e2 | e2
        · exact .inl e2
        · exact .inr (List.mem_cons_of_mem _ e2)
theorem ins_sorted {d : Dt} : ∀ {l : List Dt}, Sorted l → (∀ x ∈ l, keyB d x = false) → Sorted (ins d l)
  | [], _, _ => List.pairwise_singleton _ _
  | y :: l, h, hk => by
    obtain ⟨h1, h2⟩ := List.pairwise_cons.1 h
    unfold ins
    split
    · rename_i e
      refine List.pairwise_cons.2 ⟨fun x hx => ?_, h⟩
      rcases List.mem_cons.1 hx with e2 | e2
      · rw [e2]; exact e
      · exact ahead_trans e (h1 x e2)
    · rename_i e
      refine List.pairwise_cons.2 ⟨fun x hx => ?_, ins_sorted h2 (fun x hx => hk x (List.mem_cons_of_mem _ hx))⟩
      rcases ins_mem hx with e2 | e2
      · subst e2
        have := hk y (List.mem_cons_self ..)
        unfold aheadB at e ⊢
        unfold keyB at this
        simp at *
        omega
      · exact h1 x e2
/-- The program's way: what stands ahead is moved over, then the message itself. -/
theorem ins_split {d : Dt} : ∀ {l r : List Dt}, (∀ x ∈ l, aheadB x d = true) → (∀ x, r.head? = some x → aheadB d x = true) → ins d (l ++ r) = l ++ d :: r
  | [], [], _, _ => rfl
  | [], x :: r, _, h => by rw [List.nil_append, List.nil_append, ins, if_pos (h x rfl)]
  | y :: l, r, h1, h2 => by
    have hy := h1 y (List.mem_cons_self ..)
    have : aheadB d y = false := by
      unfold aheadB at *; simp at *; omega
    rw [List.cons_append, ins, this, if_neg (by simp), ins_split (fun x hx => h1 x (List.mem_cons_of_mem _ hx)) h2]; rfl
end Go.Proofs.Ytcffhfcjfjfokaa
/- A region that draws its order: reads (guarded ones that are off, too), all taken first in the text's order, then stores and assigns, one behind the other; a read may come behind a store that does not touch it. -/
namespace Go.Proofs.Ytcffhfcjfjfokaa
open Go Go.RowKit
/-- Operations that hand back a value at once. -/
def plainB (o : Oper) : Bool := match o.op with
  | .move _ | .assign _ | .fieldAddr .. | .indexAddr .. | .load .. | .binOp .. | .unOp .. | .extract .. | .field .. | .index .. | .build .. | .pick .. | .nilCheck _ | .convert .. | .slice .. | .makeFunc .. => true
  | .call { callee := .builtin .len, .. } => true
  | _ => false
section
variable {P : Program} {ops : Array Oper} {md : Region.Mode} {S : World → Prop} {Q : Exit → Act → World → Prop}
theorem value_v {s : Sem Value} {w w' : World} {n : Next} (h : (do let r ← s; pure (Next.value r) : Sem Next).run P w = .ok n w') : ∃ u, n = .value u := by
  rw [Sem.run_bind] at h
  generalize s.run P w = r at h
  cases r with
  | ok v w1 => simp [Result.andThen] at h; exact ⟨_, h.1.symm⟩
  | halt x w1 => simp [Result.andThen] at h
theorem plain_value {o : Oper} {ev : Operand → Value} {w w' : World} {n : Next} (hp : plainB o = true) (h : (execOp ev o).run P w = .ok n w') : ∃ u, n = .value u := by
  unfold plainB at hp
  unfold execOp at h
  cases ho : o.op <;> rw [ho] at hp h <;> simp only [Bool.false_eq_true] at hp <;> dsimp only at h <;> try exact value_v h
  · simp at h; exact ⟨_, h.1.symm⟩
  · simp at h; exact ⟨_, h.1.symm⟩
  · rename_i c a b
    rw [Sem.run_bind] at h
    generalize (asBool (ev c)).run P w = r at h
    cases r with
    | ok v w1 => simp [Result.andThen] at h; exact ⟨_, h.1.symm⟩
    | halt x w1 => simp [Result.andThen] at h
  · split at h
    · simp [runtimePanic] at h
    · simp [runtimePanic] at h
    · simp [runtimePanic] at h
    · split at h
      · simp [runtimePanic] at h
      · rw [Sem.run_bind] at h
        generalize Sem.run P program w = r at h
        cases r with
        | halt x w1 => simp [Result.andThen] at h
        | ok p w1 =>
          simp only [Result.andThen_ok] at h
          rw [Sem.run_bind] at h
          generalize Sem.run P (nilAhead _ _ _ _) w1 = r at h
          cases r with
          | halt x w2 => simp [Result.andThen] at h
          | ok v w2 =>
            simp only [Result.andThen_ok] at h
            split at h
            · simp [unsupported, Sem.run_bind, Result.andThen] at h
            · simp [Sem.run_bind, Result.andThen] at h; exact ⟨_, h.1.symm⟩
      · simp at h; exact ⟨_, h.1.symm⟩
    · simp at h; exact ⟨_, h.1.symm⟩
  · rename_i cl
    obtain ⟨callee, args, argTypes⟩ := cl
    cases callee <;> first | (simp at hp; done) | skip
    rename_i bi
    cases bi <;> first | (simp at hp; done) | skip
    simp only [resolve, invoke, builtin, Sem.run_bind, Sem.run_pure, Result.andThen_ok] at h
    generalize Sem.run P (Builtin.len_ argTypes o.type (Array.map ev args)) w = r at h
    cases r with
    | ok v w1 => simp [Result.andThen] at h; exact ⟨_, h.1.symm⟩
    | halt x w1 => simp [Result.andThen] at h
theorem yields_of_quiet {o : Oper} {a : Act} {v : Value} (hp : plainB o = true) (hw : Region.wanted o (yielded ops a.tmps) = true) (h : ∀ w, S w → o.quietAt P a S w v) : YieldsIf P ops S o v a := by
  refine .inl ⟨hw, fun w hS => ?_⟩
  have h1 := h w hS
  unfold Oper.quietAt at h1
  cases hr : (execOp a.eval o).run P w with
  | halt x w' => rw [hr] at h1; exact absurd h1 (by simp [Oper.quietUpon])
  | ok n w' =>
    obtain ⟨u, rfl⟩ := plain_value hp hr
    rw [hr] at h1
    obtain ⟨rfl, rfl⟩ := h1
    rfl
/-- Which have come up when the first k have. -/
def Lk (s : Nat) : Nat → Array Bool
  | 0 => Array.replicate s false
  | k + 1 => (Lk s k).setIfInBounds k true
/-- The first n are plain and may be taken first one by one; each behind them waits for all ahead of it. -/
def heldB (md : Region.Mode) (ops : Array Oper) (n : Nat) : Bool :=
  Region.noSelect ops && decide (n ≤ ops.size) && (List.range n).all (fun k => Region.free md ops (Lk ops.size k) k && (Region.ready md ops (Lk ops.size k)).contains k) &&
    (List.range ops.size).all (fun k => decide (k < n) || decide (Region.ready md ops (Lk ops.size k) = [k])) && decide (Region.ready md ops (Lk ops.size ops.size) = [])
/-- The tail: one operation behind the other, S behind each. -/
def wpTail (P : Program) (ops : Array Oper) (Q : Exit → Act → World → Prop) (S : World → Prop) : List Oper → Act → World → Prop
  | [], a, w => Q .normal a w
  | o :: rest, a, w => if Region.wanted o (yielded ops a.tmps) then o.wp P a w (fun a' w' => S w' ∧ wpTail P ops Q S rest a' w') Q else S w ∧ wpTail P ops Q S rest (a.put o.dst undef) w
theorem tail_ok {n : Nat} (hT : ∀ k, n ≤ k → k < ops.size → Region.ready md ops (Lk ops.size k) = [k]) (hE : Region.ready md ops (Lk ops.size ops.size) = []) :
    ∀ (l : List Oper) (k : Nat) (a : Act) (w : World), n ≤ k → k + l.length = ops.size → (∀ j, j < l.length → ops[k + j]? = l[j]?) → wpTail P ops Q S l a w → wpAnyH P md ops Q S l.length (Lk ops.size k) a w
  | [], k, a, w, hk, hl, _, h => by
    have : k = ops.size := by simpa using hl
    subst this
    exact ⟨hE, h⟩
  | o :: rest, k, a, w, hk, hl, hj, h => by
    have hkl : k < ops.size := by simp at hl; omega
    have ho : ops[k]? = some o := by have := hj 0 (by simp); simpa using this
    refine ⟨fun h0 => (by rw [hT k hk hkl] at h0; cases h0), fun i hi => ?_⟩
    rw [hT k hk hkl] at hi
    obtain rfl : i = k := by simpa using hi
    have ih := fun a' w' => tail_ok hT hE rest (i + 1) a' w' (by omega) (by simp at hl; omega) (fun j hj' => by have := hj (j + 1) (by simp; omega); rw [show i + 1 + j = i + (j + 1) by omega]; simpa using this)
    unfold wpOp
    simp only [ho]
    unfold wpTail at h
    by_cases hw : Region.wanted o (yielded ops a.tmps) = true
    · rw [if_pos hw] at h ⊢
      exact .inl (Oper.wp_mono (fun a' w' h' => ⟨h'.1, ih a' w' h'.2⟩) h)
    · rw [if_neg hw] at h ⊢
      exact ⟨h.1, ih _ _ h.2⟩
/-- The head: each operation in the text's order; it is passed over, or plain and of one value in every world that meets S. -/
def wpHeldQ (P : Program) (ops : Array Oper) (S : World → Prop) (K : Act → Prop) : List Oper → Act → Prop
  | [], a => K a
  | o :: rest, a => if Region.wanted o (yielded ops a.tmps) then plainB o = true ∧ o.quiet P a S (wpHeldQ P ops S K rest) else wpHeldQ P ops S K rest (a.put o.dst undef)
theorem wpHeldQ_nil {K : Act → Prop} {a : Act} (h : K a) : wpHeldQ P ops S K [] a := h
theorem wpHeldQ_skip {K : Act → Prop} {a : Act} {o : Oper} {rest : List Oper} (hw : Region.wanted o (yielded ops a.tmps) = false) (h : wpHeldQ P ops S K rest (a.put o.dst undef)) : wpHeldQ P ops S K (o :: rest) a := by
  unfold wpHeldQ; rw [hw]; exact h
theorem wpHeldQ_want {K : Act → Prop} {a : Act} {o : Oper} {rest : List Oper} (hw : Region.wanted o (yielded ops a.tmps) = true) (hp : plainB o = true) (h : ∀ K' : Act → Prop, (∀ a, wpHeldQ P ops S K rest a → K' a) → o.quiet P a S K') : wpHeldQ P ops S K (o :: rest) a := by
  unfold wpHeldQ; rw [if_pos hw]; exact ⟨hp, h _ fun _ h => h⟩
/-- A row or a struct read. -/
theorem wpHeldQ_load {K : Act → Prop} {a : Act} {o : Oper} {rest : List Oper} (hw : Region.wanted o (yielded ops a.tmps) = true) (ty : TypeId) (x : Operand) (ho : o.op = .load ty x) (b off : Nat) (hx : a.eval x = .pointer (some ⟨b, off, none⟩)) (v : Value)
    (hv : ∀ w, S w → (loadVar ty ⟨b, off, none⟩).run P w = .ok v w) (h : wpHeldQ P ops S K rest (a.put o.dst v)) : wpHeldQ P ops S K (o :: rest) a := by
  unfold wpHeldQ
  rw [if_pos hw]
  refine ⟨by unfold plainB; rw [ho], v, fun w hS => ?_, h⟩
  unfold Oper.quietAt execOp
  simp only [ho, hx, Instr.loadAt, Instr.sureAddr, Sem.run_bind, Sem.run_pure, Result.andThen_ok, hv w hS]
  exact ⟨rfl, rfl⟩
theorem head_ok {n : Nat} (hsel : Region.noSelect ops = true) (hB : ∀ k, k < n → Region.free md ops (Lk ops.size k) k = true ∧ (Region.ready md ops (Lk ops.size k)).contains k = true)
    (hQ : ∀ c a d v w, Q (.panic c) (Act.put a d v) w → Q (.panic c) a w) {K : Act → Prop} {w : World} {fuel : Nat} (hS : S w) (hK : ∀ a', K a' → wpAnyH P md ops Q S fuel (Lk ops.size n) a' w) :
    ∀ (l : List Oper) (k : Nat) (a : Act), k + l.length = n → (∀ j, j < l.length → ops[k + j]? = l[j]?) → wpHeldQ P ops S K l a → wpAnyH P md ops Q S (l.length + fuel) (Lk ops.size k) a w
  | [], k, a, hl, _, h => by
    have : k = n := by simpa using hl
    subst this
    simpa using hK a h
  | o :: rest, k, a, hl, hj, h => by
    have hkn : k < n := by simp at hl; omega
    have ho : ops[k]? = some o := by have := hj 0 (by simp); simpa using this
    obtain ⟨b2, b3⟩ := hB k hkn
    have ih := fun a' => head_ok hsel hB hQ hS hK rest (k + 1) a' (by simp at hl; omega) (fun j hj' => by have := hj (j + 1) (by simp; omega); rw [show k + 1 + j = k + (j + 1) by omega]; simpa using this)
    have key : ∃ v, YieldsIf P ops S o v a ∧ wpHeldQ P ops S K rest (a.put o.dst v) := by
      unfold wpHeldQ at h
      by_cases hw : Region.wanted o (yielded ops a.tmps) = true
      · rw [if_pos hw] at h
        obtain ⟨hp, v, h1, h2⟩ := h
        exact ⟨v, yields_of_quiet hp hw h1, h2⟩
      · rw [if_neg hw] at h
        exact ⟨undef, .inr ⟨by simpa using hw, rfl⟩, h⟩
    obtain ⟨v, hy, hr⟩ := key
    have := wpAnyH_take (i := k) (fuel := rest.length + fuel) ho hsel b2 b3 (fun c a w => hQ c a _ _ w) hy hS (ih _ hr)
    rw [show (o :: rest).length + fuel = rest.length + fuel + 1 by simp; omega]
    exact this
theorem wp_region_lex {id : Nat} {a : Act} {w : World} {l : List Oper} (n : Nat) (S : World → Prop) (hm : P.follows .mixedOrders = true) (hB : heldB .any l.toArray n = true) (hQ : ∀ c a d v w, Q (.panic c) (Act.put a d v) w → Q (.panic c) a w) (hS : S w.drew)
    (h : wpHeldQ P l.toArray S (fun a' => wpTail P l.toArray Q S (l.drop n) a' w.drew) (l.take n) a) : (Code.region id l.toArray true).wp P Q a w := by
  unfold heldB at hB
  simp only [Bool.and_eq_true, decide_eq_true_eq, List.all_eq_true, List.mem_range, Bool.or_eq_true] at hB
  obtain ⟨⟨⟨⟨hsel, hn⟩, hh⟩, ht⟩, he⟩ := hB
  have hn' : n ≤ l.length := by simpa using hn
  have htl : (l.take n).length = n := by simp; omega
  have hdl : (l.drop n).length = l.toArray.size - n := by simp
  refine wp_region_held (S := S) hm ?_
  have hT : ∀ k, n ≤ k → k < l.toArray.size → Region.ready .any l.toArray (Lk l.toArray.size k) = [k] := fun k h1 h2 => by
    rcases ht k h2 with h3 | h3
    · omega
    · exact h3
  have H := head_ok (n := n) (fuel := (l.drop n).length) hsel (fun k hk => by exact hh k hk) hQ hS (fun a' ha' => tail_ok hT he (l.drop n) n a' _ (Nat.le_refl _) (by rw [hdl]; omega) (fun j hj => by simp [List.getElem?_drop]) ha') (l.take n) 0 a (by simpa using htl)
    (fun j hj => by have : j < n := by rw [htl] at hj; exact hj
                    simp [this]) h
  rw [htl, hdl, show n + (l.toArray.size - n) = l.toArray.size by omega] at H
  exact H
end
end Go.Proofs.Ytcffhfcjfjfokaa
/- A region that draws its order, walked along one way that the prover names: runs of plain operations that may be taken first, and between them single operations that alone may come up. -/
namespace Go.Proofs.Ytcffhfcjfjfokaa
open Go Go.RowKit
section
variable {P : Program} {ops : Array Oper} {md : Region.Mode} {S : World → Prop} {Q : Exit → Act → World → Prop}
/-- Whatever order is picked from here on, and S holds behind every operation other than number z. -/
def wpAnyZ (P : Program) (md : Region.Mode) (ops : Array Oper) (Q : Exit → Act → World → Prop) (S : World → Prop) (z : Nat) : Nat → Array Bool → Act → World → Prop
  | 0, listed, a, w => Region.ready md ops listed = [] ∧ Q .normal a w
  | fuel + 1, listed, a, w =>
    (Region.ready md ops listed = [] → Q .normal a w) ∧
    ∀ i ∈ Region.ready md ops listed, wpOp P ops Q i (fun a' w' => (i = z ∨ S w') ∧ wpAnyZ P md ops Q S z fuel (listed.setIfInBounds i true) a' w') a w
theorem wpAny_of_z {z : Nat} : ∀ (fuel : Nat) (listed : Array Bool) (a : Act) (w : World), wpAnyZ P md ops Q S z fuel listed a w → wpAny P md ops Q fuel listed a w
  | 0, _, _, _, h => h
  | fuel + 1, _, _, _, h => ⟨h.1, fun i hi => wpOp_mono (fun a' w' h' => wpAny_of_z fuel _ a' w' h'.2) (h.2 i hi)⟩
theorem wpAnyZ_first {i z : Nat} {oi : Oper} {v : Value} (hi : ops[i]? = some oi) (hz : ops.size ≤ z ∨ Region.waitsFor md ops z i = true) (hsel : ∀ (j : Nat) (o : Oper) cs b, ops[j]? = some o → o.op ≠ .select cs b)
    (hQ : ∀ c a w, Q (.panic c) (a.put oi.dst v) w → Q (.panic c) a w) :
    ∀ (fuel : Nat) (listed : Array Bool) (a : Act) (w : World),
      (∀ j oj, ops[j]? = some oj → j ≠ i → listed.getD j true = false → (∀ e ∈ oj.after, Region.binds md e = true → e.on ≠ i) → oi.apart ops oj = true) →
      i ∈ Region.ready md ops listed → YieldsIf P ops S oi v a → S w →
      wpAnyZ P md ops Q S z fuel (listed.setIfInBounds i true) (a.put oi.dst v) w → wpAnyZ P md ops Q S z (fuel + 1) listed a w := by
  intro fuel
  induction fuel with
  | zero =>
    intro listed a w _ hr hy hS H
    refine ⟨fun h => (by rw [h] at hr; cases hr), fun j hj => ?_⟩
    by_cases hji : j = i
    · subst hji; exact hy.wpOp hi hS ⟨.inr hS, H⟩
    · have := ready_mono hj hji
      rw [H.1] at this
      cases this
  | succ fuel ih =>
    intro listed a w hfree hr hy hS H
    refine ⟨fun h => (by rw [h] at hr; cases hr), fun j hj => ?_⟩
    by_cases hji : j = i
    · subst hji; exact hy.wpOp hi hS ⟨.inr hS, H⟩
    · have h1 := H.2 j (ready_mono hj hji)
      obtain ⟨hjun, oj, hoj, hall⟩ := mem_ready.1 hj
      have hnot : ∀ e ∈ oj.after, Region.binds md e = true → e.on ≠ i := fun e he hb heq => by
        have h1 := hall e he hb
        have h0 := (mem_ready.1 hr).1
        rw [heq] at h1
        rcases Nat.lt_or_ge i listed.size with h' | h'
        · simp [h'] at h0 h1; rw [h0] at h1; cases h1
        · simp [Array.getElem?_eq_none h'] at h1
      have hjz : j ≠ z := fun e => by
        subst e
        rcases hz with hz | hz
        · have := (Array.getElem?_eq_some_iff.1 hoj).1; omega
        · obtain ⟨o', ho', e, he, hb, hon⟩ := Region.waitsFor_spec hz
          obtain rfl : o' = oj := Option.some.inj (ho'.symm.trans hoj)
          exact hnot e he hb hon
      have h2 := wpOp_putIf hoj (hfree j oj hoj hji hjun hnot) (fun cs b => hsel i oi cs b hi) (fun cs b => hsel j oj cs b hoj) hQ hy h1
      have hfree' : ∀ k ok, ops[k]? = some ok → k ≠ i → (listed.setIfInBounds j true).getD k true = false →
          (∀ e ∈ ok.after, Region.binds md e = true → e.on ≠ i) → oi.apart ops ok = true := fun k ok hk hki hun hno => by
        refine hfree k ok hk hki ?_ hno
        by_cases hjk : j = k
        · subst hjk; exact hjun
        · rw [getD_set_ne true hjk] at hun; exact hun
      refine wpOp_mono (fun a' w' h3 => ⟨h3.2.1, ih (listed.setIfInBounds j true) a' w' hfree' (ready_mono hr (Ne.symm hji)) h3.1 (h3.2.1.resolve_left hjz) ?_⟩) h2
      rw [Array.setIfInBounds_comm _ _ hji]
      exact h3.2.2
/-- One operation of a list. -/
def pick : List Oper → Nat → List Oper
  | [], _ => []
  | o :: _, 0 => [o]
  | _ :: r, i + 1 => pick r i
def picks (l : List Oper) : List Nat → List Oper
  | [] => []
  | i :: r => pick l i ++ picks l r
theorem pick_of : ∀ {l : List Oper} {i : Nat} {o : Oper}, l[i]? = some o → pick l i = [o]
  | [], i, o, h => by simp at h
  | x :: r, 0, o, h => by simp at h; rw [pick, h]
  | x :: r, i + 1, o, h => by rw [pick]; exact pick_of (by simpa using h)
/-- Plain ones that may come up, and so may be taken first. -/
def runB (md : Region.Mode) (ops : Array Oper) (z : Nat) : Array Bool → List Nat → Option (Array Bool)
  | L, [] => some L
  | L, i :: r => if Region.free md ops L i && (Region.ready md ops L).contains i && decide (i < ops.size) && (ops[i]?.map plainB == some true) && (decide (ops.size ≤ z) || Region.waitsFor md ops z i) then runB md ops z (L.setIfInBounds i true) r else none
def segB (md : Region.Mode) (ops : Array Oper) (z : Nat) (last : List Nat) : Array Bool → List (List Nat × Nat) → Bool
  | L, [] => match runB md ops z L last with
    | some L' => decide (Region.ready md ops L' = [])
    | none => false
  | L, (is, i) :: r => match runB md ops z L is with
    | some L' => decide (Region.ready md ops L' = [i]) && decide (i < ops.size) && (decide (i = z → r = [] ∧ last = [])) && segB md ops z last (L'.setIfInBounds i true) r
    | none => false
def ordB (md : Region.Mode) (ops : Array Oper) (z : Nat) (segs : List (List Nat × Nat)) (last : List Nat) : Bool := Region.noSelect ops && segB md ops z last (Array.replicate ops.size false) segs
/-- What is to be shown along the way. -/
def woD (P : Program) (l : List Oper) (z : Nat) (S : World → Prop) (Q : Exit → Act → World → Prop) (last : List Nat) : List (List Nat × Nat) → Act → World → Prop
  | [], a, w => wpQuiet P l.toArray S (fun a' => Q .normal a' w) (picks l last) a
  | (is, i) :: r, a, w => wpQuiet P l.toArray S (fun a' => ∀ o, pick l i = [o] → if Region.wanted o (yielded l.toArray a'.tmps) = true then o.wp P a' w (fun a2 w2 => (i = z ∨ S w2) ∧ woD P l z S Q last r a2 w2) Q else woD P l z S Q last r (a'.put o.dst undef) w) (picks l is) a
structure WO (P : Program) (l : List Oper) (z : Nat) (S : World → Prop) (Q : Exit → Act → World → Prop) (last : List Nat) (segs : List (List Nat × Nat)) (a : Act) (w : World) : Prop where
  out : woD P l z S Q last segs a w
variable {l : List Oper} {z : Nat} {last : List Nat} {w : World} {a : Act}
theorem quiet_mono {K K' : Act → Prop} (h : ∀ a, K a → K' a) : ∀ {m : List Oper} {a : Act}, wpQuiet P ops S K m a → wpQuiet P ops S K' m a
  | [], a, hk => h a hk
  | o :: m, a, hk => by
    unfold wpQuiet at hk ⊢
    split
    · rename_i hw
      rw [if_pos hw] at hk
      obtain ⟨v, h1, h2⟩ := hk
      exact ⟨v, h1, quiet_mono h h2⟩
    · rename_i hw
      rw [if_neg hw] at hk
      exact quiet_mono h hk
theorem WO.seg {is : List Nat} {i : Nat} {o : Oper} {r : List (List Nat × Nat)} (ho : pick l i = [o])
    (h : wpQuiet P l.toArray S (fun a' => ∀ K : Act → World → Prop, Hid (∀ a2 w2, S w2 → WO P l z S Q last r a2 w2 → K a2 w2) → if Region.wanted o (yielded l.toArray a'.tmps) = true then o.wp P a' w K Q else K (a'.put o.dst undef) w) (picks l is) a) (hS : S w) :
    WO P l z S Q last ((is, i) :: r) a w := by
  refine ⟨?_⟩
  unfold woD
  refine quiet_mono (fun a' h' o' ho' => ?_) h
  obtain rfl : o' = o := by rw [ho] at ho'; simpa using ho'.symm
  have := h' (fun a2 w2 => S w2 ∧ woD P l z S Q last r a2 w2) (Lib.hid fun a2 w2 h1 h2 => ⟨h1, h2.out⟩)
  split
  · rename_i hw; rw [if_pos hw] at this; exact Oper.wp_mono (fun a3 w3 h3 => ⟨.inr h3.1, h3.2⟩) this
  · rename_i hw; rw [if_neg hw] at this; exact this.2
/-- The last operation of all: S need not hold behind it. -/
theorem WO.segz {is : List Nat} {o : Oper} (ho : pick l z = [o])
    (h : wpQuiet P l.toArray S (fun a' => ∀ K : Act → World → Prop, Hid (∀ a2 w2, Q .normal a2 w2 → K a2 w2) → if Region.wanted o (yielded l.toArray a'.tmps) = true then o.wp P a' w K (NoPanic Q) else K (a'.put o.dst undef) w) (picks l is) a) :
    WO P l z S (NoPanic Q) [] [(is, z)] a w := by
  refine ⟨?_⟩
  unfold woD
  refine quiet_mono (fun a' h' o' ho' => ?_) h
  obtain rfl : o' = o := by rw [ho] at ho'; simpa using ho'.symm
  have := h' (fun a2 w2 => Q .normal a2 w2) (Lib.hid fun a2 w2 h1 => h1)
  split
  · rename_i hw; rw [if_pos hw] at this; exact Oper.wp_mono (fun a3 w3 h3 => ⟨.inl rfl, h3⟩) this
  · rename_i hw; rw [if_neg hw] at this; exact this
theorem run_ok (hsel : Region.noSelect l.toArray = true) (hQ : ∀ c a d v w, Q (.panic c) (Act.put a d v) w → Q (.panic c) a w) {K : Act → Prop} {fuel : Nat} :
    ∀ (is : List Nat) (L L' : Array Bool) (a : Act), (S w ∨ is = []) → runB md l.toArray z L is = some L' → (∀ a', K a' → wpAnyZ P md l.toArray Q S z fuel L' a' w) → wpQuiet P l.toArray S K (picks l is) a → wpAnyZ P md l.toArray Q S z (is.length + fuel) L a w
  | [], L, L', a, _, hb, hK, h => by
    cases hb
    simpa using hK a h
  | i :: r, L, L', a, hS', hb, hK, h => by
    have hS : S w := hS'.resolve_right (by simp)
    unfold runB at hb
    split at hb
    · rename_i hc
      simp only [Bool.and_eq_true, decide_eq_true_eq, beq_iff_eq] at hc
      obtain ⟨⟨⟨⟨h1, h2⟩, h3⟩, h4⟩, h5⟩ := hc
      have h5' : l.toArray.size ≤ z ∨ Region.waitsFor md l.toArray z i = true := by simpa using h5
      have ho : l.toArray[i]? = some l.toArray[i] := Array.getElem?_eq_getElem h3
      generalize l.toArray[i] = o at ho
      have hol : l[i]? = some o := by simpa using ho
      rw [picks, pick_of hol, List.singleton_append] at h
      rw [ho] at h4
      have h4' : plainB o = true := by simpa using h4
      have key : ∃ v, YieldsIf P l.toArray S o v a ∧ wpQuiet P l.toArray S K (picks l r) (a.put o.dst v) := by
        unfold wpQuiet at h
        by_cases hw : Region.wanted o (yielded l.toArray a.tmps) = true
        · rw [if_pos hw] at h
          obtain ⟨v, e1, e2⟩ := h
          exact ⟨v, yields_of_quiet h4' hw e1, e2⟩
        · rw [if_neg hw] at h
          exact ⟨undef, .inr ⟨by simpa using hw, rfl⟩, h⟩
      obtain ⟨v, hy, hr⟩ := key
      have := wpAnyZ_first (z := z) ho h5' (Region.noSelect_spec hsel) (fun c a w => hQ c a _ _ w) (r.length + fuel) L a w (Region.free_spec ho h1) (by simpa using h2) hy hS (run_ok hsel hQ r _ L' _ (.inl hS) hb hK hr)
      rw [show (i :: r).length + fuel = r.length + fuel + 1 by simp; omega]
      exact this
    · cases hb
def segLen : List (List Nat × Nat) → Nat
  | [] => 0
  | (is, _) :: r => is.length + 1 + segLen r
theorem seg_ok (hsel : Region.noSelect l.toArray = true) (hQ : ∀ c a d v w, Q (.panic c) (Act.put a d v) w → Q (.panic c) a w) :
    ∀ (segs : List (List Nat × Nat)) (L : Array Bool) (a : Act) (w : World), segB md l.toArray z last L segs = true → (S w ∨ (segs = [] ∧ last = [])) → woD P l z S Q last segs a w → wpAnyZ P md l.toArray Q S z (segLen segs + last.length) L a w
  | [], L, a, w, hb, hS, h => by
    unfold segB at hb
    cases hr : runB md l.toArray z L last with
    | none => rw [hr] at hb; simp at hb
    | some L' =>
      rw [hr] at hb
      have hb' : Region.ready md l.toArray L' = [] := by simpa using hb
      have := run_ok (fuel := 0) hsel hQ last L L' a (hS.imp id (·.2)) hr (K := fun a' => Q .normal a' w) (fun a' h' => ⟨hb', h'⟩) h
      rwa [segLen, Nat.zero_add]
  | (is, i) :: r, L, a, w, hb, hS', h => by
    have hS : S w := hS'.resolve_right (by simp)
    unfold segB at hb
    cases hr : runB md l.toArray z L is with
    | none => rw [hr] at hb; simp at hb
    | some L' =>
      rw [hr] at hb
      simp only [Bool.and_eq_true, decide_eq_true_eq] at hb
      obtain ⟨⟨⟨b1, b2⟩, b4⟩, b3⟩ := hb
      have b4' : i = z → r = [] ∧ last = [] := by simpa using b4
      have ho : l.toArray[i]? = some l.toArray[i] := Array.getElem?_eq_getElem b2
      generalize l.toArray[i] = o at ho
      have hol : l[i]? = some o := by simpa using ho
      have ih := fun a' w' => seg_ok hsel hQ r (L'.setIfInBounds i true) a' w' b3
      have := run_ok (fuel := segLen r + last.length + 1) hsel hQ is L L' a (.inl hS) hr (fun a' h' => (by
        have h2 := h' o (pick_of hol)
        refine ⟨fun h0 => (by rw [b1] at h0; cases h0), fun j hj => ?_⟩
        rw [b1] at hj
        obtain rfl : j = i := by simpa using hj
        unfold wpOp
        simp only [ho]
        split
        · rename_i hw
          rw [if_pos hw] at h2
          exact .inl (Oper.wp_mono (fun a3 w3 h3 => ⟨h3.1, ih a3 w3 (h3.1.elim (fun e => .inr (b4' e)) .inl) h3.2⟩) h2)
        · rename_i hw
          rw [if_neg hw] at h2
          exact ⟨.inr hS, ih _ _ (.inl hS) h2⟩)) h
      rw [show segLen ((is, i) :: r) + last.length = is.length + (segLen r + last.length + 1) by rw [segLen]; omega]
      exact this
theorem WO.end_ (h : wpQuiet P l.toArray S (fun a' => Q .normal a' w) (picks l last) a) : WO P l z S (NoPanic Q) last [] a w := ⟨h⟩
/-- z: the number of an operation that all others go ahead of; or any number past the last: then S holds behind all. -/
theorem wp_region_ordz {id : Nat} (z : Nat) (segs : List (List Nat × Nat)) (last : List Nat) (S : World → Prop) (hm : P.follows .mixedOrders = true) (hB : ordB .any l.toArray z segs last = true) (hn : segLen segs + last.length = l.length)
    (hS : S w.drew) (h : WO P l z S (NoPanic Q) last segs a w.drew) : (Code.region id l.toArray true).wp P Q a w := by
  unfold ordB at hB
  simp only [Bool.and_eq_true] at hB
  refine wp_region_noPanic (wp_region_any hm (wpAny_of_z (S := S) (z := z) _ _ _ _ ?_))
  have := seg_ok (Q := NoPanic Q) hB.1 (fun _ _ _ _ _ h => h) segs _ a _ hB.2 (.inl hS) h.out
  rw [hn] at this
  simpa using this
theorem wp_region_ord {id : Nat} (segs : List (List Nat × Nat)) (last : List Nat) (S : World → Prop) (hm : P.follows .mixedOrders = true) (hB : ordB .any l.toArray 1000 segs last = true) (hn : segLen segs + last.length = l.length)
    (hS : S w.drew) (h : WO P l 1000 S (NoPanic Q) last segs a w.drew) : (Code.region id l.toArray true).wp P Q a w :=
  wp_region_ordz 1000 segs last S hm hB hn hS h
end
end Go.Proofs.Ytcffhfcjfjfokaa
/- A drawn region walked along one way, the last operation waiting through another one. -/
namespace Go.Proofs.Ytcffhfcjfjfokaa
open Go Go.RowKit
section
variable {P : Program} {ops : Array Oper} {md : Region.Mode} {S : World → Prop} {Q : Exit → Act → World → Prop}
/-- What is listed has all that it waits for listed, too. -/
def Closed (md : Region.Mode) (ops : Array Oper) (listed : Array Bool) : Prop := ∀ k ok, ops[k]? = some ok → listed.getD k false = true → ∀ e ∈ ok.after, Region.binds md e = true → listed.getD e.on false = true
theorem Closed.set {listed : Array Bool} (h : Closed md ops listed) {j : Nat} (hj : j ∈ Region.ready md ops listed) : Closed md ops (listed.setIfInBounds j true) := fun k ok hk hl e he hb => by
  by_cases hjk : j = k
  · subst hjk
    obtain ⟨_, oj, hoj, hall⟩ := mem_ready.1 hj
    obtain rfl : oj = ok := Option.some.inj (hoj.symm.trans hk)
    exact getD_set_true (hall e he hb)
  · rw [getD_set_ne false hjk] at hl
    exact getD_set_true (h k ok hk hl e he hb)
theorem closed_new (n : Nat) : Closed md ops (Array.replicate n false) := fun k ok _ hl => by rw [getD_replicate_false] at hl; cases hl
/-- z waits for i, or for one that waits for i. -/
def waits2 (md : Region.Mode) (ops : Array Oper) (z i : Nat) : Bool := Region.waitsFor md ops z i || (List.range ops.size).any fun k => Region.waitsFor md ops z k && Region.waitsFor md ops k i
theorem waits2_not {z i : Nat} {listed : Array Bool} (hz : waits2 md ops z i = true) (hc : Closed md ops listed) (hi : listed.getD i true = false) : z ∉ Region.ready md ops listed := fun hj => by
  obtain ⟨_, oj, hoj, hall⟩ := mem_ready.1 hj
  unfold waits2 at hz
  simp only [Bool.or_eq_true, List.any_eq_true, Bool.and_eq_true] at hz
  have hi' := getD_both hi
  rcases hz with hz | ⟨k, _, h1, h2⟩
  · obtain ⟨o', ho', e, he, hb, hon⟩ := Region.waitsFor_spec hz
    obtain rfl : o' = oj := Option.some.inj (ho'.symm.trans hoj)
    have := hall e he hb
    rw [hon, hi'] at this; cases this
  · obtain ⟨o', ho', e, he, hb, hon⟩ := Region.waitsFor_spec h1
    obtain rfl : o' = oj := Option.some.inj (ho'.symm.trans hoj)
    have hk := hall e he hb
    rw [hon] at hk
    obtain ⟨ok, hok, e2, he2, hb2, hon2⟩ := Region.waitsFor_spec h2
    have := hc k ok hok hk e2 he2 hb2
    rw [hon2, hi'] at this; cases this
theorem wpAnyZ_first2 {i z : Nat} {oi : Oper} {v : Value} (hi : ops[i]? = some oi) (hz : ops.size ≤ z ∨ waits2 md ops z i = true) (hsel : ∀ (j : Nat) (o : Oper) cs b, ops[j]? = some o → o.op ≠ .select cs b)
    (hQ : ∀ c a w, Q (.panic c) (a.put oi.dst v) w → Q (.panic c) a w) :
    ∀ (fuel : Nat) (listed : Array Bool) (a : Act) (w : World), Closed md ops listed →
      (∀ j oj, ops[j]? = some oj → j ≠ i → listed.getD j true = false → (∀ e ∈ oj.after, Region.binds md e = true → e.on ≠ i) → oi.apart ops oj = true) →
      i ∈ Region.ready md ops listed → YieldsIf P ops S oi v a → S w →
      wpAnyZ P md ops Q S z fuel (listed.setIfInBounds i true) (a.put oi.dst v) w → wpAnyZ P md ops Q S z (fuel + 1) listed a w := by
  intro fuel
  induction fuel with
  | zero =>
    intro listed a w _ _ hr hy hS H
    refine ⟨fun h => (by rw [h] at hr; cases hr), fun j hj => ?_⟩
    by_cases hji : j = i
    · subst hji; exact hy.wpOp hi hS ⟨.inr hS, H⟩
    · have := ready_mono hj hji
      rw [H.1] at this
      cases this
  | succ fuel ih =>
    intro listed a w hcl hfree hr hy hS H
    refine ⟨fun h => (by rw [h] at hr; cases hr), fun j hj => ?_⟩
    by_cases hji : j = i
    · subst hji; exact hy.wpOp hi hS ⟨.inr hS, H⟩
    · have h1 := H.2 j (ready_mono hj hji)
      obtain ⟨hjun, oj, hoj, hall⟩ := mem_ready.1 hj
      have hnot : ∀ e ∈ oj.after, Region.binds md e = true → e.on ≠ i := fun e he hb heq => by
        have h1 := hall e he hb
        rw [heq, getD_both (mem_ready.1 hr).1] at h1; cases h1
      have hjz : j ≠ z := fun e => by
        subst e
        rcases hz with hz | hz
        · have := (Array.getElem?_eq_some_iff.1 hoj).1; omega
        · exact waits2_not hz hcl (mem_ready.1 hr).1 hj
      have h2 := wpOp_putIf hoj (hfree j oj hoj hji hjun hnot) (fun cs b => hsel i oi cs b hi) (fun cs b => hsel j oj cs b hoj) hQ hy h1
      have hfree' : ∀ k ok, ops[k]? = some ok → k ≠ i → (listed.setIfInBounds j true).getD k true = false →
          (∀ e ∈ ok.after, Region.binds md e = true → e.on ≠ i) → oi.apart ops ok = true := fun k ok hk hki hun hno => by
        refine hfree k ok hk hki ?_ hno
        by_cases hjk : j = k
        · subst hjk; exact hjun
        · rw [getD_set_ne true hjk] at hun; exact hun
      refine wpOp_mono (fun a' w' h3 => ⟨h3.2.1, ih (listed.setIfInBounds j true) a' w' (hcl.set hj) hfree' (ready_mono hr (Ne.symm hji)) h3.1 (h3.2.1.resolve_left hjz) ?_⟩) h2
      rw [Array.setIfInBounds_comm _ _ hji]
      exact h3.2.2
def runB2 (md : Region.Mode) (ops : Array Oper) (z : Nat) : Array Bool → List Nat → Option (Array Bool)
  | L, [] => some L
  | L, i :: r => if Region.free md ops L i && (Region.ready md ops L).contains i && decide (i < ops.size) && (ops[i]?.map plainB == some true) && waits2 md ops z i then runB2 md ops z (L.setIfInBounds i true) r else none
def segB2 (md : Region.Mode) (ops : Array Oper) (z : Nat) (last : List Nat) : Array Bool → List (List Nat × Nat) → Bool
  | L, [] => match runB2 md ops z L last with
    | some L' => decide (Region.ready md ops L' = [])
    | none => false
  | L, (is, i) :: r => match runB2 md ops z L is with
    | some L' => decide (Region.ready md ops L' = [i]) && decide (i < ops.size) && (decide (i = z → r = [] ∧ last = [])) && segB2 md ops z last (L'.setIfInBounds i true) r
    | none => false
def ordB2 (md : Region.Mode) (ops : Array Oper) (z : Nat) (segs : List (List Nat × Nat)) (last : List Nat) : Bool := Region.noSelect ops && segB2 md ops z last (Array.replicate ops.size false) segs
variable {l : List Oper} {z : Nat} {last : List Nat} {w : World} {a : Act}
theorem run_ok2 (hsel : Region.noSelect l.toArray = true) (hQ : ∀ c a d v w, Q (.panic c) (Act.put a d v) w → Q (.panic c) a w) {K : Act → Prop} {fuel : Nat} :
    ∀ (is : List Nat) (L L' : Array Bool) (a : Act), Closed md l.toArray L → (S w ∨ is = []) → runB2 md l.toArray z L is = some L' → (∀ a', Closed md l.toArray L' → K a' → wpAnyZ P md l.toArray Q S z fuel L' a' w) → wpQuiet P l.toArray S K (picks l is) a → wpAnyZ P md l.toArray Q S z (is.length + fuel) L a w
  | [], L, L', a, hcl, _, hb, hK, h => by
    cases hb
    simpa using hK a hcl h
  | i :: r, L, L', a, hcl, hS', hb, hK, h => by
    have hS : S w := hS'.resolve_right (by simp)
    unfold runB2 at hb
    split at hb
    · rename_i hc
      simp only [Bool.and_eq_true, decide_eq_true_eq, beq_iff_eq] at hc
      obtain ⟨⟨⟨⟨h1, h2⟩, h3⟩, h4⟩, h5⟩ := hc
      have ho : l.toArray[i]? = some l.toArray[i] := Array.getElem?_eq_getElem h3
      generalize l.toArray[i] = o at ho
      have hol : l[i]? = some o := by simpa using ho
      rw [picks, pick_of hol, List.singleton_append] at h
      rw [ho] at h4
      have h4' : plainB o = true := by simpa using h4
      have key : ∃ v, YieldsIf P l.toArray S o v a ∧ wpQuiet P l.toArray S K (picks l r) (a.put o.dst v) := by
        unfold wpQuiet at h
        by_cases hw : Region.wanted o (yielded l.toArray a.tmps) = true
        · rw [if_pos hw] at h
          obtain ⟨v, e1, e2⟩ := h
          exact ⟨v, yields_of_quiet h4' hw e1, e2⟩
        · rw [if_neg hw] at h
          exact ⟨undef, .inr ⟨by simpa using hw, rfl⟩, h⟩
      obtain ⟨v, hy, hr⟩ := key
      have hri : i ∈ Region.ready md l.toArray L := by simpa using h2
      have := wpAnyZ_first2 (z := z) ho (.inr h5) (Region.noSelect_spec hsel) (fun c a w => hQ c a _ _ w) (r.length + fuel) L a w hcl (Region.free_spec ho h1) hri hy hS (run_ok2 hsel hQ r _ L' _ (hcl.set hri) (.inl hS) hb hK hr)
      rw [show (i :: r).length + fuel = r.length + fuel + 1 by simp; omega]
      exact this
    · cases hb
theorem seg_ok2 (hsel : Region.noSelect l.toArray = true) (hQ : ∀ c a d v w, Q (.panic c) (Act.put a d v) w → Q (.panic c) a w) :
    ∀ (segs : List (List Nat × Nat)) (L : Array Bool) (a : Act) (w : World), Closed md l.toArray L → segB2 md l.toArray z last L segs = true → (S w ∨ (segs = [] ∧ last = [])) → woD P l z S Q last segs a w → wpAnyZ P md l.toArray Q S z (segLen segs + last.length) L a w
  | [], L, a, w, hcl, hb, hS, h => by
    unfold segB2 at hb
    cases hr : runB2 md l.toArray z L last with
    | none => rw [hr] at hb; simp at hb
    | some L' =>
      rw [hr] at hb
      have hb' : Region.ready md l.toArray L' = [] := by simpa using hb
      have := run_ok2 (fuel := 0) hsel hQ last L L' a hcl (hS.imp id (·.2)) hr (K := fun a' => Q .normal a' w) (fun a' _ h' => ⟨hb', h'⟩) h
      rwa [segLen, Nat.zero_add]
  | (is, i) :: r, L, a, w, hcl, hb, hS', h => by
    have hS : S w := hS'.resolve_right (by simp)
    unfold segB2 at hb
    cases hr : runB2 md l.toArray z L is with
    | none => rw [hr] at hb; simp at hb
    | some L' =>
      rw [hr] at hb
      simp only [Bool.and_eq_true, decide_eq_true_eq] at hb
      obtain ⟨⟨⟨b1, b2⟩, b4⟩, b3⟩ := hb
      have b4' : i = z → r = [] ∧ last = [] := by simpa using b4
      have ho : l.toArray[i]? = some l.toArray[i] := Array.getElem?_eq_getElem b2
      generalize l.toArray[i] = o at ho
      have hol : l[i]? = some o := by simpa using ho
      have ih := fun a' w' hc' => seg_ok2 hsel hQ r (L'.setIfInBounds i true) a' w' hc' b3
      have := run_ok2 (fuel := segLen r + last.length + 1) hsel hQ is L L' a hcl (.inl hS) hr (fun a' hcl' h' => (by
        have h2 := h' o (pick_of hol)
        have hri : i ∈ Region.ready md l.toArray L' := by rw [b1]; simp
        refine ⟨fun h0 => (by rw [b1] at h0; cases h0), fun j hj => ?_⟩
        rw [b1] at hj
        obtain rfl : j = i := by simpa using hj
        unfold wpOp
        simp only [ho]
        split
        · rename_i hw
          rw [if_pos hw] at h2
          exact .inl (Oper.wp_mono (fun a3 w3 h3 => ⟨h3.1, ih a3 w3 (hcl'.set hri) (h3.1.elim (fun e => .inr (b4' e)) .inl) h3.2⟩) h2)
        · rename_i hw
          rw [if_neg hw] at h2
          exact ⟨.inr hS, ih _ _ (hcl'.set hri) (.inl hS) h2⟩)) h
      rw [show segLen ((is, i) :: r) + last.length = is.length + (segLen r + last.length + 1) by rw [segLen]; omega]
      exact this
theorem wp_region_ordt {id : Nat} (z : Nat) (segs : List (List Nat × Nat)) (last : List Nat) (S : World → Prop) (hm : P.follows .mixedOrders = true) (hB : ordB2 .any l.toArray z segs last = true) (hn : segLen segs + last.length = l.length)
    (hS : S w.drew) (h : WO P l z S (NoPanic Q) last segs a w.drew) : (Code.region id l.toArray true).wp P Q a w := by
  unfold ordB2 at hB
  simp only [Bool.and_eq_true] at hB
  refine wp_region_noPanic (wp_region_any hm (wpAny_of_z (S := S) (z := z) _ _ _ _ ?_))
  have := seg_ok2 (Q := NoPanic Q) hB.1 (fun _ _ _ _ _ h => h) segs _ a _ (closed_new _) hB.2 (.inl hS) h.out
  rw [hn] at this
  simpa using this
end
end Go.Proofs.Ytcffhfcjfjfokaa
