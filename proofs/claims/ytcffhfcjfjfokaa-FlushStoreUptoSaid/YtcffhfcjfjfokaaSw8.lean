/- Msgs RMsgs Cnts, joined. -/
import Derived.Test.YtcffhfcjfjfokaaSw6
import Derived.Test.YtcffhfcjfjfokaaSw7
set_option linter.unusedVariables false
set_option linter.unusedSimpArgs false
/- Messages: messages of their own. The program's and the document's. -/
namespace Go.Proofs.Ytcffhfcjfjfokaa
open Go.RowKit
theorem size113 : (Try.prog.info? 113).map (·.size) = some 4 := by kernel_rfl
theorem load113 {w : World} {b o : Nat} {r : Dr} (h : w.rangeAt b o (eDr r)) : (loadVar 113 ⟨b, o, none⟩).run Try.prog w = .ok (.agg (drA r)) w :=
  run_loadVar_mid w b o 113 (drA r).toList _ h Try.underlying113 rfl (by rw [size113]; rfl)
theorem load52 {w : World} {b o n c : Nat} {A : Option Addr} (h : w.cell? ⟨b, o, none⟩ = some (.slice A n c)) : (loadVar 52 ⟨b, o, none⟩).run Try.prog w = .ok (.slice A n c) w := by go_simp
/-- A message whose bytes can be written, from block lo on. -/
def WrB (w : World) (lo : Nat) (r : Dr) : Prop := 0 < r.d.body.length → ∃ g, r.B = some ⟨g, 0, none⟩ ∧ lo ≤ g ∧ g < w.heap.size ∧ w.there g 0 r.d.body.length
theorem WrB.same {w w' : World} {lo : Nat} {r : Dr} (h : WrB w lo r) (hs : w.heap.size ≤ w'.heap.size) (hk : ∀ g, blk r.B = some g → lo ≤ g → g < w.heap.size → w'.heap[g]? = w.heap[g]?) : WrB w' lo r := fun h0 => by
  obtain ⟨g, e, h1, h2, h3⟩ := h h0
  exact ⟨g, e, h1, by omega, there_same h3 (hk g (by rw [e]; rfl) h1 h2)⟩
theorem WrB.below {w w' : World} {lo : Nat} {r : Dr} (h : WrB w lo r) (hb : Below w.heap.size w w') : WrB w' lo r := h.same hb.size fun g _ _ hg => hb.block g hg
theorem WrB.of {w : World} {base c : Nat} {B : Option Addr} {d : Dt} (h : Owns w base 5 1 eByte B c d.body) : WrB w base ⟨d, B, c⟩ := fun h0 => by
  obtain ⟨g, cap, hv, _, hg⟩ := World.ownsRow.form h h0
  have hB : B = some ⟨g, 0, none⟩ := by injection hv
  subst hB
  refine ⟨g, rfl, (h.lo g rfl).1, hg, fun j hj => ?_⟩
  rw [Nat.zero_add]
  refine ⟨?_, World.ownsRow.frozenAt h j⟩
  rw [World.ownsRow.cellAt h j (by show j < d.body.length * 1; have : j < d.body.length := hj; omega)]
  rw [List.getElem?_eq_getElem (by rw [length_flat len_eByte]; have : j < d.body.length := hj; omega)]; rfl
/-- Messages of the call's own. -/
structure OwnMs (w : World) (base : Nat) (B : Option Addr) (c : Nat) (rs : List Dr) : Prop where
  own : Owns w base 113 4 eDr B c rs
  far : ∀ r ∈ rs, FarDr w B r
  wr : ∀ r ∈ rs, WrB w base r
theorem OwnMs.dts {w : World} {base c : Nat} {B : Option Addr} {rs : List Dr} (h : OwnMs w base B c rs) : Dts w w.heap.size B (rs.map Dr.d) := ⟨rs, rfl, h.own.row len_eDr, fun r hr => ⟨(h.far r hr).2.row, (h.far r hr).1.1, (h.far r hr).1.2⟩⟩
theorem ownMs_nil (w : World) (base : Nat) : OwnMs w base none 0 [] := ⟨owns_nil _ _ _ _ _, fun r hr => (by cases hr), fun r hr => (by cases hr)⟩
/-- One more: its bytes are new; then the row grows. -/
theorem OwnMs.push {w x y : World} {base c c' : Nat} {B B' : Option Addr} {rs : List Dr} {r : Dr} (h : OwnMs w base B c rs) (hb : Below w.heap.size w x) (hr : FarDr x B r) (hw : WrB x base r) (o : Obj) (ho : Owns y base 113 4 eDr B' c' (rs ++ [r])) (hg : (x.alloc o).grownBy y (blk B)) (hk : blk B' = blk B ∨ blk B' = some (x.alloc o).heap.size) : OwnMs y base B' c' (rs ++ [r]) := by
  have hbx : Below x.heap.size x (x.alloc o) := (Below.refl _ _).alloc (Nat.le_refl _) _
  have hall : ∀ z ∈ rs ++ [r], FarDr (x.alloc o) B z ∧ WrB (x.alloc o) base z := fun z hz => by
    rcases List.mem_append.1 hz with e | e
    · exact ⟨((h.far z e).below hb).below hbx, ((h.wr z e).below hb).below hbx⟩
    · obtain rfl := List.mem_singleton.1 e
      exact ⟨hr.below hbx, hw.below hbx⟩
  refine ⟨ho, fun z hz => (hall z hz).1.grown hg hk, fun z hz => ?_⟩
  obtain ⟨hf, hwz⟩ := hall z hz
  intro h0
  obtain ⟨g, e, h1, h2, h3⟩ := hwz h0
  obtain ⟨g2, off, e2, hne, _, _⟩ := hf.2 h0
  rw [e] at e2; injection e2 with e2; injection e2 with e2 _; subst e2
  exact ⟨g, e, h1, Nat.lt_of_lt_of_le h2 hg.size, there_same h3 (hg.block g h2 hne)⟩
/-- What Messages answers: messages of the call's own. -/
def MePost (w : World) (ds : List Dt) (x : Ending) (w' : World) : Prop :=
  ∃ B c rs, x = .returned (.slice B ds.length c) ∧ rs.map Dr.d = ds ∧ OwnMs w' w.heap.size B c rs ∧ Below w.heap.size w w'
set_option maxRecDepth 100000 in
set_option maxHeartbeats 2000000 in
theorem messages_any {w : World} {F : List Nat} {b g : Nat} {s : Sto} {ks : List KpX} {Mp : Option Addr} {cM : Nat} {ms : List Dr} (h : StV w F b g 0 1 s ks Mp cM ms) :
    Calls Try.prog 78 #[.pointer (some ⟨b, 0, none⟩)] w (MePost w s.msgs) := by
  have hL : (loadVar 40 ⟨b, 6, none⟩).run Try.prog w = .ok (.slice Mp ms.length cM) w := load40 h.cm
  have hlen := h.lenM
  have hml : ms.length = s.msgs.length := by rw [← h.mm, List.length_map]
  have hx : ∀ W, Below w.heap.size w W → RowAt W w.heap.size 4 eDr Mp ms ∧ ∀ r ∈ ms, RowAt W w.heap.size 1 eByte r.B r.d.body := fun W hW => ⟨h.mrow.row.below hW (Nat.le_refl _), fun r hr => (h.mS r hr).row.row.below hW (Nat.le_refl _)⟩
  have hcap : ∀ r ∈ ms, r.d.body.length ≤ 256 := fun r hr => by
    have := h.inv.each r.d (by rw [← h.mm]; exact List.mem_map.2 ⟨r, hr, rfl⟩)
    unfold dtB at this; simp at this; omega
  have hmm := h.mm
  replace hL := Lib.hid hL
  replace hx := Lib.hid hx
  replace hcap := Lib.hid hcap
  replace hmm := Lib.hid hmm
  replace h := Lib.hid h
  unfold MePost
  rw [← hml]
  replace hml := Lib.hid hml
  go_enter Try.func78, Try.ntmps78
  go_wp2_with (first
    | (refine wpList_loadR rfl 40 (.tmp 8) rfl b 6 (by rfl) _ (by exact hL.out) ?_)
    | fail)
  go_loopw [3, 11] (fun v k wr => ∃ (q : Nat) (B : Option Addr) (c : Nat) (rs : List Dr), k = .int .i64 q ∧ q ≤ ms.length ∧ v = .slice B q c ∧ rs.length = q ∧ Hid (rs.map Dr.d = (ms.map Dr.d).take q) ∧ OwnMs wr w.heap.size B c rs ∧ Below w.heap.size w wr) (fun _ k _ => ms.length - (intOf k).toNat)
  case atStart => exact ⟨0, none, 0, [], rfl, by omega, rfl, rfl, by show List.map _ _ = _; simp, ownMs_nil _ _, Below.refl _ _⟩
  case round =>
    obtain ⟨q, B, c, rs, rfl, hq, rfl, hrl, hrs, ho, hb⟩ := hrel
    have hzr := hb.size
    replace hrl := Lib.hid hrl
    replace ho := Lib.hid ho
    replace hb := Lib.hid hb
    by_cases hlt : q < ms.length
    · obtain ⟨hrow, hbod⟩ := hx.out _ hb.out
      obtain ⟨g1, o1, hMe, hg1, hc1⟩ := hrow (by omega)
      have hr : ms[q]? = some ms[q] := List.getElem?_eq_getElem hlt
      obtain ⟨r, hre⟩ : ∃ r, r = ms[q] := ⟨_, rfl⟩
      rw [← hre] at hr
      have hrm : r ∈ ms := by rw [hre]; exact List.getElem_mem hlt
      have hrr : wr.rangeAt g1 (o1 + q * 4) (eDr r) := fun j u hu => hc1 q r hr j u hu
      have hB := hbod r hrm
      have hb256 := hcap.out r hrm
      obtain ⟨x1, hx1⟩ : ∃ x1, x1 = wr.alloc (.cells (drA r) 113) := ⟨_, rfl⟩
      have b1 : Below wr.heap.size wr x1 := by rw [hx1]; exact below_box1 _ _ _
      have r1 : x1.rangeAt wr.heap.size 0 (eDr r) := by rw [hx1]; exact range_new wr (drA r) 113
      have t1 : x1.there wr.heap.size 0 4 := by rw [hx1]; exact there_new wr (drA r) 113
      have z1 : x1.heap.size = wr.heap.size + 1 := by rw [hx1]; simp
      have L16 : (loadVar 52 ⟨wr.heap.size, 3, none⟩).run Try.prog x1 = .ok (.slice r.B r.d.body.length r.c) x1 := load52 (r1 3 _ rfl)
      have hB1 := hB.below b1 hzr
      have hq0 : (0 : Int) ≤ (q : Int) := by omega
      have hq1 : (q : Int) < (ms.length : Int) := by omega
      subst hMe
      replace hr := Lib.hid hr
      replace hre := Lib.hid hre
      replace hrm := Lib.hid hrm
      replace hrr := Lib.hid hrr
      replace hB1 := Lib.hid hB1
      replace hx1 := Lib.hid hx1
      replace b1 := Lib.hid b1
      replace r1 := Lib.hid r1
      replace t1 := Lib.hid t1
      replace z1 := Lib.hid z1
      replace L16 := Lib.hid L16
      clear hrow hbod hc1 hB
      go_wp2_with (first
        | (refine wpList_loadR rfl 113 (.tmp 13) rfl g1 (o1 + q * 4) (by rfl) _ (by exact load113 hrr.out) ?_)
        | (rw [← hx1.out]
           refine wpList_loadR rfl 52 (.tmp 15) rfl wr.heap.size 3 (by rfl) _ (by exact L16.out) ?_)
        | (refine wpList_append_rows _ rfl (.const (.slice none 0 0)) (.tmp 16) 52 rfl x1.heap.size 5 1 1 (.int .u8 0) Try.underlying52 info5 (by rfl) (by omega) eByte len_eByte one_eByte none 0 [] r.B r.c w.heap.size 0 r.d.body.length r.d.body (by rfl) (by rfl) rfl rfl (owns_nil _ _ _ _ _) hB1.out (by omega) (by omega) (Nat.le_refl _) ?_
           intro A2 c2 x2 ho2 hg2 hk2
           rw [Nat.zero_add]
           rw [List.nil_append] at ho2
           have b2 : Below x1.heap.size x1 x2 := (Below.refl _ _).grown hg2 (Nat.le_refl _) (fun k hk => by cases hk)
           have r2 := range_same r1.out (b2.block wr.heap.size (by have := z1.out; omega))
           have t2 := there_same t1.out (b2.block wr.heap.size (by have := z1.out; omega))
           have k3 : x2.cell? ⟨wr.heap.size, 3, none⟩ = some (.slice r.B r.d.body.length r.c) := r2 3 _ rfl
           have f3 : x2.frozen? ⟨wr.heap.size, 3, none⟩ = false := there_frozen (k := 3) t2 (by omega)
           obtain ⟨x3, hx3⟩ : ∃ x3, x3 = x2.setCell ⟨wr.heap.size, 3, none⟩ (.slice A2 r.d.body.length c2) := ⟨_, rfl⟩
           have r3 : x3.rangeAt wr.heap.size 0 (eDr ⟨r.d, A2, c2⟩) := by rw [hx3]; exact rng_put (o := 3) (vs := [.slice A2 r.d.body.length c2]) r2 t2 rfl (by show 3 + 1 ≤ 4; omega)
           have g3 : x2.grownBy x3 (some wr.heap.size) := by rw [hx3]; exact grown_cell _ _ _ _
           have b3 : Below wr.heap.size wr x3 := (b1.out.trans (b2.mono (by have := z1.out; omega))).grown g3 (by have := b2.size; have := z1.out; omega) (by intro k hk; injection hk with hk; omega)
           have lo2 := ho2.lo
           have ho3 : Owns x3 x1.heap.size 5 1 eByte A2 c2 r.d.body := ho2.kept g3 (.inr (by intro e; have := (lo2 _ e).1; have := z1.out; omega))
           have hlen3 := ho3.len
           have hfar3 : FarDr x3 B ⟨r.d, A2, c2⟩ := ⟨hlen3, FarRow.of_row (FRow.of_owns ho3 len_eByte) (fun k hk => by have := (ho.out.own.lo k hk).2; have := z1.out; omega)⟩
           have hwr3 : WrB x3 w.heap.size ⟨r.d, A2, c2⟩ := WrB.of (ho3.base (by have := z1.out; omega))
           have hown3 := (ho.out.own.keep b3 (fun k hk => (ho.out.own.lo k hk).2)).alloc (.cells (drA ⟨r.d, A2, c2⟩) 113)
           have hrow3 := row_new x3 113 4 eDr ⟨r.d, A2, c2⟩ (drA ⟨r.d, A2, c2⟩) rfl
           have z3 := b3.size
           have bw3 : Below w.heap.size w (x3.alloc (.cells (drA ⟨r.d, A2, c2⟩) 113)) := (hb.out.trans (b3.mono hzr)).alloc (by omega) _
           clear hg2 hk2 b2 r2 t2 g3 lo2 ho2
           replace hx3 := Lib.hid hx3
           replace r3 := Lib.hid r3
           replace b3 := Lib.hid b3
           replace ho3 := Lib.hid ho3
           replace hfar3 := Lib.hid hfar3
           replace hwr3 := Lib.hid hwr3
           replace hown3 := Lib.hid hown3
           replace hrow3 := Lib.hid hrow3
           replace bw3 := Lib.hid bw3
           replace hlen3 := Lib.hid hlen3)
        | (rw [← hx3.out]
           refine wpList_loadR rfl 113 (.tmp 5) rfl wr.heap.size 0 (by rfl) _ (by exact load113 r3.out) ?_)
        | (refine wpList_append_rows _ rfl (.tmp 19) (.tmp 21) 40 rfl w.heap.size 113 4 48 (.agg #[.int .i64 0, .int .i64 0, .int .i64 0, .slice none 0 0]) Try.underlying40 info113 (by rfl) (by omega) eDr len_eDr one_eDr B c rs (some ⟨x3.heap.size, 0, none⟩) 1 (x3.heap.size + 1) q 1 [⟨r.d, A2, c2⟩] (by rfl) (by rfl) hrl.out rfl hown3.out hrow3.out (by omega) (by omega) (by rw [World.size_alloc]; omega) ?_
           intro B4 c4 x4 ho4 hg4 hk4
           have b4 : Below w.heap.size w x4 := bw3.out.grown hg4 (by rw [World.size_alloc]; omega) (fun k hk => (ho.out.own.lo k hk).1)
           have hms := ho.out.push b3.out hfar3.out hwr3.out (.cells (drA ⟨r.d, A2, c2⟩) 113) ho4 hg4 hk4
           replace hms := Lib.hid hms
           replace b4 := Lib.hid b4
           clear ho4 hg4 hk4)
        | fail)
      go_roundw
      case rel => go_light; exact ⟨q + 1, B4, c4, rs ++ [⟨r.d, A2, c2⟩], by go_num, by omega, rfl, by rw [List.length_append, hrl.out]; rfl, by show List.map _ _ = _; rw [List.map_append, hrs.out, List.take_add_one, List.getElem?_map, hr.out]; rfl, hms.out, b4.out⟩
      case measure => go_light; simp [intOf]; omega
    · obtain rfl : q = ms.length := by omega
      have hfin : rs.map Dr.d = s.msgs := by rw [hrs.out, hmm.out, hml.out, List.take_length]
      replace hfin := Lib.hid hfin
      go_wp2
      go_ret
      exact ⟨B, c, rs, rfl, hfin.out, ho.out, hb.out⟩
end Go.Proofs.Ytcffhfcjfjfokaa
/- Messages of the document. -/
namespace Go.Proofs.Ytcffhfcjfjfokaa
open Go.RowKit
set_option maxRecDepth 100000 in
set_option maxHeartbeats 2000000 in
theorem rmessages_any {w : World} {F : List Nat} {b g : Nat} {s : Sto} {ks : List KpX} {Mp : Option Addr} {cM : Nat} {ms : List Dr} (h : StV w F b g 1 2 s ks Mp cM ms) :
    Calls Try.prog 79 #[.pointer (some ⟨b, 0, none⟩)] w (MePost w s.msgs) := by
  have hL : (loadVar 40 ⟨b, 6, none⟩).run Try.prog w = .ok (.slice Mp ms.length cM) w := load40 h.cm
  have hlen := h.lenM
  have hbw : b < w.heap.size := h.hi b h.bF
  have hcm := h.cm
  have hml : ms.length = s.msgs.length := by rw [← h.mm, List.length_map]
  have hx : ∀ W, Below w.heap.size w W → RowAt W w.heap.size 4 eDr Mp ms ∧ ∀ r ∈ ms, RowAt W w.heap.size 1 eByte r.B r.d.body := fun W hW => ⟨h.mrow.row.below hW (Nat.le_refl _), fun r hr => (h.mS r hr).row.row.below hW (Nat.le_refl _)⟩
  have hcap : ∀ r ∈ ms, r.d.body.length ≤ 256 := fun r hr => by
    have := h.inv.each r.d (by rw [← h.mm]; exact List.mem_map.2 ⟨r, hr, rfl⟩)
    unfold dtB at this; simp at this; omega
  have hmm := h.mm
  clear hL
  replace hcm := Lib.hid hcm
  replace hbw := Lib.hid hbw
  replace hx := Lib.hid hx
  replace hcap := Lib.hid hcap
  replace hmm := Lib.hid hmm
  replace h := Lib.hid h
  unfold MePost
  rw [← hml]
  replace hml := Lib.hid hml
  go_enter Try.func79, Try.ntmps79
  go_wp2_with fail
  go_loopw [3, 4] (fun v k wr => ∃ (q : Nat) (B : Option Addr) (c : Nat) (rs : List Dr), k = .int .i64 q ∧ q ≤ ms.length ∧ v = .slice B q c ∧ rs.length = q ∧ Hid (rs.map Dr.d = (ms.map Dr.d).take q) ∧ OwnMs wr w.heap.size B c rs ∧ Below w.heap.size w wr) (fun _ k _ => ms.length - (intOf k).toNat)
  case atStart => exact ⟨0, none, 0, [], rfl, by omega, rfl, rfl, by show List.map _ _ = _; simp, ownMs_nil _ _, Below.refl _ _⟩
  case round =>
    obtain ⟨q, B, c, rs, rfl, hq, rfl, hrl, hrs, ho, hb⟩ := hrel
    have hzr := hb.size
    have hLr : (loadVar 40 ⟨b, 6, none⟩).run Try.prog wr = .ok (.slice Mp ms.length cM) wr := load40 ((hb.cell (p := ⟨b, 6, none⟩) hbw.out).trans hcm.out)
    replace hLr := Lib.hid hLr
    replace hrl := Lib.hid hrl
    replace ho := Lib.hid ho
    replace hb := Lib.hid hb
    by_cases hlt : q < ms.length
    · obtain ⟨hrow, hbod⟩ := hx.out _ hb.out
      obtain ⟨g1, o1, hMe, hg1, hc1⟩ := hrow (by omega)
      have hr : ms[q]? = some ms[q] := List.getElem?_eq_getElem hlt
      obtain ⟨r, hre⟩ : ∃ r, r = ms[q] := ⟨_, rfl⟩
      rw [← hre] at hr
      have hrm : r ∈ ms := by rw [hre]; exact List.getElem_mem hlt
      have hrr : wr.rangeAt g1 (o1 + q * 4) (eDr r) := fun j u hu => hc1 q r hr j u hu
      have hB := hbod r hrm
      have hb256 := hcap.out r hrm
      obtain ⟨x1, hx1⟩ : ∃ x1, x1 = wr.alloc (.cells (drA r) 113) := ⟨_, rfl⟩
      have b1 : Below wr.heap.size wr x1 := by rw [hx1]; exact below_box1 _ _ _
      have r1 : x1.rangeAt wr.heap.size 0 (eDr r) := by rw [hx1]; exact range_new wr (drA r) 113
      have t1 : x1.there wr.heap.size 0 4 := by rw [hx1]; exact there_new wr (drA r) 113
      have z1 : x1.heap.size = wr.heap.size + 1 := by rw [hx1]; simp
      have L16 : (loadVar 52 ⟨wr.heap.size, 3, none⟩).run Try.prog x1 = .ok (.slice r.B r.d.body.length r.c) x1 := load52 (r1 3 _ rfl)
      have hB1 := hB.below b1 hzr
      have hq0 : (0 : Int) ≤ (q : Int) := by omega
      have hq1 : (q : Int) < (ms.length : Int) := by omega
      subst hMe
      replace hr := Lib.hid hr
      replace hre := Lib.hid hre
      replace hrm := Lib.hid hrm
      replace hrr := Lib.hid hrr
      replace hB1 := Lib.hid hB1
      replace hx1 := Lib.hid hx1
      replace b1 := Lib.hid b1
      replace r1 := Lib.hid r1
      replace t1 := Lib.hid t1
      replace z1 := Lib.hid z1
      replace L16 := Lib.hid L16
      clear hrow hbod hc1 hB
      go_wp2_with (first
        | (refine wpList_loadR rfl 40 (.tmp 10) rfl b 6 (by rfl) _ (by exact hLr.out) ?_)
        | (refine wpList_loadR rfl 40 (.tmp 18) rfl b 6 (by rfl) _ (by exact hLr.out) ?_)
        | (refine wpList_loadR rfl 113 (.tmp 21) rfl g1 (o1 + q * 4) (by rfl) _ (by exact load113 hrr.out) ?_)
        | (rw [← hx1.out]
           refine wpList_loadR rfl 52 (.tmp 24) rfl wr.heap.size 3 (by rfl) _ (by exact L16.out) ?_)
        | (refine wpList_append_rows _ rfl (.tmp 23) (.tmp 25) 52 rfl x1.heap.size 5 1 1 (.int .u8 0) Try.underlying52 info5 (by rfl) (by omega) eByte len_eByte one_eByte none 0 [] r.B r.c w.heap.size 0 r.d.body.length r.d.body (by rfl) (by rfl) rfl rfl (owns_nil _ _ _ _ _) hB1.out (by omega) (by omega) (Nat.le_refl _) ?_
           intro A2 c2 x2 ho2 hg2 hk2
           rw [Nat.zero_add]
           rw [List.nil_append] at ho2
           have b2 : Below x1.heap.size x1 x2 := (Below.refl _ _).grown hg2 (Nat.le_refl _) (fun k hk => by cases hk)
           have r2 := range_same r1.out (b2.block wr.heap.size (by have := z1.out; omega))
           have t2 := there_same t1.out (b2.block wr.heap.size (by have := z1.out; omega))
           have k3 : x2.cell? ⟨wr.heap.size, 3, none⟩ = some (.slice r.B r.d.body.length r.c) := r2 3 _ rfl
           have f3 : x2.frozen? ⟨wr.heap.size, 3, none⟩ = false := there_frozen (k := 3) t2 (by omega)
           obtain ⟨x3, hx3⟩ : ∃ x3, x3 = x2.setCell ⟨wr.heap.size, 3, none⟩ (.slice A2 r.d.body.length c2) := ⟨_, rfl⟩
           have r3 : x3.rangeAt wr.heap.size 0 (eDr ⟨r.d, A2, c2⟩) := by rw [hx3]; exact rng_put (o := 3) (vs := [.slice A2 r.d.body.length c2]) r2 t2 rfl (by show 3 + 1 ≤ 4; omega)
           have g3 : x2.grownBy x3 (some wr.heap.size) := by rw [hx3]; exact grown_cell _ _ _ _
           have b3 : Below wr.heap.size wr x3 := (b1.out.trans (b2.mono (by have := z1.out; omega))).grown g3 (by have := b2.size; have := z1.out; omega) (by intro k hk; injection hk with hk; omega)
           have lo2 := ho2.lo
           have ho3 : Owns x3 x1.heap.size 5 1 eByte A2 c2 r.d.body := ho2.kept g3 (.inr (by intro e; have := (lo2 _ e).1; have := z1.out; omega))
           have hlen3 := ho3.len
           have hfar3 : FarDr x3 B ⟨r.d, A2, c2⟩ := ⟨hlen3, FarRow.of_row (FRow.of_owns ho3 len_eByte) (fun k hk => by have := (ho.out.own.lo k hk).2; have := z1.out; omega)⟩
           have hwr3 : WrB x3 w.heap.size ⟨r.d, A2, c2⟩ := WrB.of (ho3.base (by have := z1.out; omega))
           have hown3 := (ho.out.own.keep b3 (fun k hk => (ho.out.own.lo k hk).2)).alloc (.cells (drA ⟨r.d, A2, c2⟩) 113)
           have hrow3 := row_new x3 113 4 eDr ⟨r.d, A2, c2⟩ (drA ⟨r.d, A2, c2⟩) rfl
           have z3 := b3.size
           have bw3 : Below w.heap.size w (x3.alloc (.cells (drA ⟨r.d, A2, c2⟩) 113)) := (hb.out.trans (b3.mono hzr)).alloc (by omega) _
           clear hg2 hk2 b2 r2 t2 g3 lo2 ho2
           replace hx3 := Lib.hid hx3
           replace r3 := Lib.hid r3
           replace b3 := Lib.hid b3
           replace ho3 := Lib.hid ho3
           replace hfar3 := Lib.hid hfar3
           replace hwr3 := Lib.hid hwr3
           replace hown3 := Lib.hid hown3
           replace hrow3 := Lib.hid hrow3
           replace bw3 := Lib.hid bw3
           replace hlen3 := Lib.hid hlen3)
        | (rw [← hx3.out]
           refine wpList_loadR rfl 113 (.tmp 5) rfl wr.heap.size 0 (by rfl) _ (by exact load113 r3.out) ?_)
        | (refine wpList_append_rows _ rfl (.tmp 29) (.tmp 31) 40 rfl w.heap.size 113 4 48 (.agg #[.int .i64 0, .int .i64 0, .int .i64 0, .slice none 0 0]) Try.underlying40 info113 (by rfl) (by omega) eDr len_eDr one_eDr B c rs (some ⟨x3.heap.size, 0, none⟩) 1 (x3.heap.size + 1) q 1 [⟨r.d, A2, c2⟩] (by rfl) (by rfl) hrl.out rfl hown3.out hrow3.out (by omega) (by omega) (by rw [World.size_alloc]; omega) ?_
           intro B4 c4 x4 ho4 hg4 hk4
           have b4 : Below w.heap.size w x4 := bw3.out.grown hg4 (by rw [World.size_alloc]; omega) (fun k hk => (ho.out.own.lo k hk).1)
           have hms := ho.out.push b3.out hfar3.out hwr3.out (.cells (drA ⟨r.d, A2, c2⟩) 113) ho4 hg4 hk4
           replace hms := Lib.hid hms
           replace b4 := Lib.hid b4
           clear ho4 hg4 hk4)
        | fail)
      go_roundw
      case rel => go_light; exact ⟨q + 1, B4, c4, rs ++ [⟨r.d, A2, c2⟩], by go_num, by omega, rfl, by rw [List.length_append, hrl.out]; rfl, by show List.map _ _ = _; rw [List.map_append, hrs.out, List.take_add_one, List.getElem?_map, hr.out]; rfl, hms.out, b4.out⟩
      case measure => go_light; simp [intOf]; omega
    · obtain rfl : q = ms.length := by omega
      have hfin : rs.map Dr.d = s.msgs := by rw [hrs.out, hmm.out, hml.out, List.take_length]
      replace hfin := Lib.hid hfin
      go_wp2_with (first
        | (refine wpList_loadR rfl 40 (.tmp 10) rfl b 6 (by rfl) _ (by exact hLr.out) ?_)
        | fail)
      go_ret
      exact ⟨B, c, rs, rfl, hfin.out, ho.out, hb.out⟩
end Go.Proofs.Ytcffhfcjfjfokaa
/- Contents: the kept contents of a list of members, each with lists of its own. The program's and the document's. -/
namespace Go.Proofs.Ytcffhfcjfjfokaa
open Go.RowKit
/-- Contents of the call's own, no two with a list in common. -/
structure OwnFs (w : World) (base : Nat) (B : Option Addr) (c : Nat) (rs : List Rw) : Prop where
  own : Owns w base 39 7 eRw B c rs
  each : ∀ r ∈ rs, Owns w base 66 2 eSlot r.X r.cX r.f.slots ∧ Owns w base 3 1 eInt r.Y r.cY r.f.have_
  dis : rs.Pairwise fun a b => (∀ k, blk a.X = some k → blk b.X ≠ some k) ∧ (∀ k, blk a.Y = some k → blk b.Y ≠ some k)
theorem ownFs_nil (w : World) (base : Nat) : OwnFs w base none 0 [] := ⟨owns_nil _ _ _ _ _, fun r hr => (by cases hr), List.Pairwise.nil⟩
theorem OwnFs.base {w : World} {base base' c : Nat} {B : Option Addr} {rs : List Rw} (h : OwnFs w base B c rs) (hb : base' ≤ base) : OwnFs w base' B c rs := ⟨h.own.base hb, fun r hr => ⟨(h.each r hr).1.base hb, (h.each r hr).2.base hb⟩, h.dis⟩
theorem OwnFs.push {w x y : World} {base c c' : Nat} {B B' : Option Addr} {rs : List Rw} {r : Rw} (h : OwnFs w base B c rs) (hb : Below w.heap.size w x) (hbs : base ≤ w.heap.size) (hs : Owns x w.heap.size 66 2 eSlot r.X r.cX r.f.slots) (hh : Owns x w.heap.size 3 1 eInt r.Y r.cY r.f.have_) (o : Obj) (ho : Owns y base 39 7 eRw B' c' (rs ++ [r])) (hg : (x.alloc o).grownBy y (blk B)) : OwnFs y base B' c' (rs ++ [r]) := by
  have hB : Owns (x.alloc o) base 39 7 eRw B c rs := (h.own.keep hb (fun k hk => (h.own.lo k hk).2)).alloc o
  have hall : ∀ z ∈ rs ++ [r], Owns (x.alloc o) base 66 2 eSlot z.X z.cX z.f.slots ∧ Owns (x.alloc o) base 3 1 eInt z.Y z.cY z.f.have_ := fun z hz => by
    rcases List.mem_append.1 hz with e | e
    · obtain ⟨h1, h2⟩ := h.each z e
      exact ⟨(h1.keep hb (fun k hk => (h1.lo k hk).2)).alloc o, (h2.keep hb (fun k hk => (h2.lo k hk).2)).alloc o⟩
    · obtain rfl := List.mem_singleton.1 e
      exact ⟨(hs.base hbs).alloc o, (hh.base hbs).alloc o⟩
  refine ⟨ho, fun z hz => ?_, ?_⟩
  · obtain ⟨h1, h2⟩ := hall z hz
    exact ⟨h1.kept hg (h1.ne hB (by decide)), h2.kept hg (h2.ne hB (by decide))⟩
  · refine List.pairwise_append.2 ⟨h.dis, List.pairwise_singleton _ _, fun a ha b hb' => ?_⟩
    obtain rfl := List.mem_singleton.1 hb'
    obtain ⟨h1, h2⟩ := h.each a ha
    exact ⟨fun k hk e => by have := (h1.lo k hk).2; have := (hs.lo k e).1; omega, fun k hk e => by have := (h2.lo k hk).2; have := (hh.lo k e).1; omega⟩
theorem kp_small {s : Sto} (h : SInv s) (q : Nat) : (s.kp q).f.slots.length ≤ 1048576 ∧ (s.kp q).f.have_.length ≤ 1048576 := by
  rcases kp_of h q with e | ⟨_, e⟩
  · rw [e]; exact ⟨by simp [Kp.zero, Fl.zero], by simp [Kp.zero, Fl.zero]⟩
  · exact ⟨by have := e.held; omega, by have := e.high; omega⟩
theorem here_range {s : Sto} {e l i c : Int} {m : Mm} (h : s.hereB e l i c m = true) : 0 ≤ m.p ∧ m.p < s.n := by
  unfold Sto.hereB at h
  simp only [Bool.and_eq_true, decide_eq_true_eq] at h
  exact h.1
theorem missing_zero {s : Sto} {e l i c : Int} {who : List Mm} (h : who.all (s.hereB e l i c) = true) : (s.missing e l i c who).length = 0 := by
  unfold Sto.missing
  rw [List.length_map, List.length_eq_zero_iff, List.filter_eq_nil_iff]
  intro a ha
  rw [List.all_eq_true.1 h a ha]; simp
theorem missing_some {s : Sto} {e l i c : Int} {who : List Mm} (h : who.all (s.hereB e l i c) = false) : 0 < (s.missing e l i c who).length := by
  unfold Sto.missing
  obtain ⟨a, ha, hf⟩ := List.all_eq_false.1 h
  rw [List.length_map]
  exact List.length_pos_of_mem (List.mem_filter.2 ⟨ha, by simpa using hf⟩)
def BelC (x : World) (u : Nat) (v : Value) (W : World) : Prop := Below x.heap.size x W ∧ W.cell? ⟨u, 0, none⟩ = some v
def cntF (s : Sto) (m : Mm) : Fl := (s.kp m.p.toNat).f
/-- What Contents answers. -/
def CtPost (w : World) (r : Option (List Fl)) (x : Ending) (w' : World) : Prop :=
  Below w.heap.size w w' ∧ match r with
    | none => x = .returned (.tuple #[.slice none 0 0, .int .i64 81])
    | some fs => ∃ B c rs, x = .returned (.tuple #[.slice B fs.length c, .int .i64 0]) ∧ rs.map Rw.f = fs ∧ OwnFs w' w.heap.size B c rs
set_option maxRecDepth 100000 in
set_option maxHeartbeats 2000000 in
theorem contents_any {w : World} {F : List Nat} {b g : Nat} {s : Sto} {ks : List KpX} {Mp : Option Addr} {cM : Nat} {ms : List Dr} (h : StV w F b g 0 1 s ks Mp cM ms) (e l i c : Int) (A : Option Addr) (cA N : Nat) (who : List Mm) (hN : N ≤ w.heap.size) (hA : RowAt w N 3 eMm A who) (hl : who.length ≤ 1048576) :
    Calls Try.prog 82 #[.pointer (some ⟨b, 0, none⟩), .agg #[.int .i64 e, .int .i64 l, .int .i64 i, .int .i64 c], .slice A who.length cA] w (CtPost w (s.contents e l i c who)) := by
  obtain ⟨wA, hwA⟩ : ∃ wA, wA = w.alloc (.cells #[.int .i64 e, .int .i64 l, .int .i64 i, .int .i64 c] 35) := ⟨_, rfl⟩
  have hbA : Below w.heap.size w wA := by rw [hwA]; exact below_box1 _ _ _
  have zA : wA.heap.size = w.heap.size + 1 := by rw [hwA]; simp
  have oA : wA.rangeAt w.heap.size 0 [.int .i64 e, .int .i64 l, .int .i64 i, .int .i64 c] := by rw [hwA]; exact range_new w #[.int .i64 e, .int .i64 l, .int .i64 i, .int .i64 c] 35
  have hbz := h.hi b h.bF
  have hgz := h.hi g h.gF
  have hiv := h.inv
  have hx : ∀ W, Below wA.heap.size wA W → RowAt W N 3 eMm A who ∧ StV W F b g 0 1 s ks Mp cM ms ∧ W.rangeAt w.heap.size 0 [.int .i64 e, .int .i64 l, .int .i64 i, .int .i64 c] := fun W hW =>
    ⟨(hA.below hbA hN).below hW (by omega), (h.below hbA).below hW, range_same oA (hW.block w.heap.size (by omega))⟩
  replace hx := Lib.hid hx
  replace hbA := Lib.hid hbA
  replace hwA := Lib.hid hwA
  replace zA := Lib.hid zA
  replace hiv := Lib.hid hiv
  clear h oA hA
  cases hall : who.all (s.hereB e l i c) with
  | false =>
    have hC0 : s.contents e l i c who = none := by unfold Sto.contents; rw [hall]; rfl
    have hpos := missing_some hall
    have hml := missing_len s e l i c who
    rw [hC0]
    obtain ⟨mz, hmz⟩ : ∃ z, z = s.missing e l i c who := ⟨_, rfl⟩
    rw [← hmz] at hpos hml
    replace hmz := Lib.hid hmz
    have hp0 : (0 : Int) < (mz.length : Int) := by omega
    have hL := load35 (hx.out _ (Below.refl _ _)).2.2
    replace hL := Lib.hid hL
    clear hC0 hall
    go_enter Try.func82, Try.ntmps82
    go_wp2_with (first
      | (rw [← hwA.out]
         refine wpList_loadR rfl 35 (.tmp 4) rfl w.heap.size 0 (by rfl) _ (by exact hL.out) ?_)
      | fail)
    go_wp2_with (first
      | (go_at_call 72
         refine (missing_any (hx.out _ (Below.refl _ _)).2.1 e l i c A cA N who (by have := zA.out; omega) (hx.out _ (Below.refl _ _)).1 hl).mono ?_
         rw [← hmz.out]
         rintro e' x2 ⟨Bm, cm, rfl, hom, hb2⟩
         clear hom
         replace hb2 := Lib.hid hb2)
      | fail)
    go_ret2
    exact ⟨hbA.out.trans (hb2.out.mono (by have := zA.out; omega)), rfl⟩
  | true =>
    have hC0 : s.contents e l i c who = some (who.map (cntF s)) := by unfold Sto.contents; rw [hall]; rfl
    have hze := missing_zero hall
    have hml := missing_len s e l i c who
    rw [hC0]
    obtain ⟨mz, hmz⟩ : ∃ z, z = s.missing e l i c who := ⟨_, rfl⟩
    rw [← hmz] at hze hml
    replace hmz := Lib.hid hmz
    have hp0 : decide ((0 : Int) < (mz.length : Int)) = false := decide_eq_false (by omega)
    have hL := load35 (hx.out _ (Below.refl _ _)).2.2
    have hall2 := fun m (hm : m ∈ who) => here_range (List.all_eq_true.1 hall m hm)
    replace hall2 := Lib.hid hall2
    replace hL := Lib.hid hL
    clear hC0 hall
    go_enter Try.func82, Try.ntmps82
    go_wp2_with (first
      | (rw [← hwA.out]
         refine wpList_loadR rfl 35 (.tmp 4) rfl w.heap.size 0 (by rfl) _ (by exact hL.out) ?_)
      | fail)
    go_wp2_with (first
      | (go_at_call 72
         refine (missing_any (hx.out _ (Below.refl _ _)).2.1 e l i c A cA N who (by have := zA.out; omega) (hx.out _ (Below.refl _ _)).1 hl).mono ?_
         rw [← hmz.out]
         rintro e' wB ⟨Bm, cm, rfl, hom, hbB⟩
         clear hom
         replace hbB := Lib.hid hbB)
      | fail)
    go_loopw [8, 19] (fun v k wr => ∃ (q : Nat) (B : Option Addr) (d : Nat) (rs : List Rw), k = .int .i64 q ∧ q ≤ who.length ∧ v = .slice B q d ∧ rs.length = q ∧ Hid (rs.map Rw.f = (who.take q).map (cntF s)) ∧ OwnFs wr wA.heap.size B d rs ∧ Below wA.heap.size wA wr) (fun _ k _ => who.length - (intOf k).toNat)
    case atStart => exact ⟨0, none, 0, [], rfl, by omega, rfl, rfl, by show List.map _ _ = _; simp, ownFs_nil _ _, hbB.out⟩
    case round =>
      obtain ⟨q, B, d, rs, rfl, hq, rfl, hrl, hrs, ho, hb⟩ := hrel
      have hzr := hb.size
      replace hrl := Lib.hid hrl
      replace ho := Lib.hid ho
      replace hb := Lib.hid hb
      by_cases hlt : q < who.length
      · obtain ⟨g1, o1, rfl, hg1, hc1⟩ := (hx.out _ hb.out).1 (by omega)
        have hm : who[q]? = some who[q] := List.getElem?_eq_getElem hlt
        obtain ⟨m, hme⟩ : ∃ m, m = who[q] := ⟨_, rfl⟩
        rw [← hme] at hm
        have hmr : wr.rangeAt g1 (o1 + q * 3) (eMm m) := fun j u hu => hc1 q m hm j u hu
        obtain ⟨hp1, hp2⟩ := hall2.out m (List.mem_of_getElem? hm)
        obtain ⟨p, hp⟩ := Int.eq_ofNat_of_zero_le hp1
        have hpn : p < s.n := by omega
        have htk : (who.take (q + 1)).map (cntF s) = (who.take q).map (cntF s) ++ [(s.kp p).f] := by
          rw [List.take_add_one, hm, List.map_append]
          show _ ++ [cntF s m] = _
          unfold cntF; rw [show m.p.toNat = p by omega]
        obtain ⟨x1, hx1⟩ : ∃ x1, x1 = wr.alloc (.cells #[.int .i64 m.p, .int .i64 m.i, .int .i64 m.c] 168) := ⟨_, rfl⟩
        have b1 : Below wr.heap.size wr x1 := by rw [hx1]; exact below_box1 _ _ _
        have r1 : x1.rangeAt wr.heap.size 0 (eMm m) := by rw [hx1]; exact range_new wr #[.int .i64 m.p, .int .i64 m.i, .int .i64 m.c] 168
        have z1 : x1.heap.size = wr.heap.size + 1 := by rw [hx1]; simp
        have bA1 := hb.out.trans (b1.mono hzr)
        obtain ⟨kx, hkx, hkk, hkr, hkf⟩ := (hx.out _ (bA1.drew)).2.1.kp hpn
        obtain ⟨hk1, hk2⟩ := kp_small hiv.out p
        rw [← hkk] at htk hk1 hk2
        have hS : ∀ W : World, (BelC wA wr.heap.size (.int .i64 m.p) W) → (loadVar 135 ⟨b, 0, none⟩).run Try.prog W = .ok (.slice (some ⟨g, 0, none⟩) s.n s.n) W := fun W hW => load135 (hx.out _ hW.1).2.1.ck
        have hS2 : ∀ W : World, (BelC wA wr.heap.size (.int .i64 m.p) W) → (loadVar 3 ⟨wr.heap.size, 0, none⟩).run Try.prog W = .ok (.int .i64 p) W := fun W hW => load3 (by rw [hW.2, hp])
        have hS3 : ∀ W : World, (BelC wA wr.heap.size (.int .i64 m.p) W) → (loadVar 39 ⟨g, p * 8 + 1, none⟩).run Try.prog W = .ok (.agg (flc kx.k.f.e kx.k.f.l kx.k.f.i kx.k.f.c kx.k.f.base kx.A kx.k.f.slots.length kx.cA kx.B kx.k.f.have_.length kx.cB)) W := fun W hW => by
          refine load39 ?_
          have hr8 := (hx.out _ hW.1).2.1.krow p kx hkx
          exact fun j u hu => by
            have h9 := hr8 (j + 1) u hu
            rw [show p * 8 + 1 + j = p * 8 + (j + 1) by omega]; exact h9
        have s1 : BelC wA wr.heap.size (.int .i64 m.p) x1.drew := ⟨bA1.drew, r1 0 _ rfl⟩
        have hC : ∀ x' : Prop, (∀ W : World, (BelC wA wr.heap.size (.int .i64 m.p) W) → x') ↔ x' := fun x' => ⟨fun f => f _ s1, fun f _ _ => f⟩
        have hq0 : (0 : Int) ≤ (q : Int) := by omega
        have hq1 : (q : Int) < (who.length : Int) := by omega
        have hpz0 : (0 : Int) ≤ (p : Int) := by omega
        have hpz1 : (p : Int) < (s.n : Int) := by omega
        have hfr := hkf.rows
        replace hfr := Lib.hid hfr
        replace hkx := Lib.hid hkx
        replace hkk := Lib.hid hkk
        replace hkr := Lib.hid hkr
        replace hkf := Lib.hid hkf
        replace hS := Lib.hid hS
        replace hS2 := Lib.hid hS2
        replace hS3 := Lib.hid hS3
        replace s1 := Lib.hid s1
        replace htk := Lib.hid htk
        replace hme := Lib.hid hme
        replace hm := Lib.hid hm
        replace hmr := Lib.hid hmr
        replace hp := Lib.hid hp
        replace hx1 := Lib.hid hx1
        replace b1 := Lib.hid b1
        replace r1 := Lib.hid r1
        replace bA1 := Lib.hid bA1
        clear hc1 hp1 hp2
        go_wp2_with (first
          | (refine wpList_loadR rfl 168 (.tmp 21) rfl g1 (o1 + q * 3) (by rfl) _ (by exact load168 hmr.out) ?_)
          | fail)
        rw [← hx1.out]
        refine wp_region_ord [([0, 1, 2, 3, 4, 5, 6, 7, 8, 9], 10), ([], 11), ([], 12)] [13] (fun W => BelC wA wr.heap.size (.int .i64 m.p) W) rfl (by kernel_rfl) rfl s1.out ?_
        refine WO.seg rfl ?_ s1.out
        simp only [picks, pick, List.cons_append, List.nil_append, List.append_nil]
        repeat (first
          | go_big_quiet_skip
          | (refine wpQuiet_loadC (by rfl) 135 (.tmp 26) rfl b 0 (by rfl) _ hS.out ?_; simp only [Act.put, List.setIfInBounds_toArray, List.set_cons_zero, List.set_cons_succ])
          | (refine wpQuiet_loadC (by rfl) 3 (.tmp 28) rfl wr.heap.size 0 (by rfl) _ hS2.out ?_; simp only [Act.put, List.setIfInBounds_toArray, List.set_cons_zero, List.set_cons_succ])
          | (refine wpQuiet_loadC (by rfl) 39 (.tmp 31) rfl g (p * 8 + 1) (by rfl) _ hS3.out ?_; simp only [Act.put, List.setIfInBounds_toArray, List.set_cons_zero, List.set_cons_succ])
          | go_big_quiet_step (fail))
        refine wpQuiet_nil ?_
        intro K hK
        go_simp
        go_at_call 106
        refine (ptwin_any kx.k.f kx.A kx.cA kx.B kx.cB x1.drew.heap.size x1.drew (Nat.le_refl _) hfr.out.slots hfr.out.have_ hk1 hk2).mono ?_
        rintro e' x2 ⟨A2, c2, B2, d2, rfl, hs2, hh2, hb2⟩
        have s2 : BelC wA wr.heap.size (.int .i64 m.p) x2 := ⟨s1.out.1.trans (hb2.mono (by have := bA1.out.size; exact this)), (hb2.cell (p := ⟨wr.heap.size, 0, none⟩) (by show wr.heap.size < x1.heap.size; omega)).trans s1.out.2⟩
        replace hs2 := Lib.hid hs2
        replace hh2 := Lib.hid hh2
        replace hb2 := Lib.hid hb2
        replace s2 := Lib.hid s2
        go_wp2_with fail
        refine hK.out _ _ s2.out ?_
        clear hK K
        refine WO.seg rfl ?_ s2.out
        simp only [picks]
        refine wpQuiet_nil ?_
        intro K hK
        go_simp
        have z1' := z1
        have zb2 : x1.heap.size ≤ x2.heap.size := hb2.out.size
        have bwr2 : Below wr.heap.size wr x2 := (b1.out.drew).trans (hb2.out.mono (by show wr.heap.size ≤ x1.heap.size; omega))
        have hown3 := (ho.out.own.keep bwr2 (fun k hk => (ho.out.own.lo k hk).2)).alloc (.cells (flc kx.k.f.e kx.k.f.l kx.k.f.i kx.k.f.c kx.k.f.base A2 kx.k.f.slots.length c2 B2 kx.k.f.have_.length d2) 39)
        have hrow3 := row_new x2 39 7 eRw ⟨kx.k.f, A2, c2, B2, d2⟩ (flc kx.k.f.e kx.k.f.l kx.k.f.i kx.k.f.c kx.k.f.base A2 kx.k.f.slots.length c2 B2 kx.k.f.have_.length d2) rfl
        have s3 : BelC wA wr.heap.size (.int .i64 m.p) (x2.alloc (.cells (flc kx.k.f.e kx.k.f.l kx.k.f.i kx.k.f.c kx.k.f.base A2 kx.k.f.slots.length c2 B2 kx.k.f.have_.length d2) 39)) := ⟨s2.out.1.alloc s2.out.1.size _, by rw [World.cell?_of_block (heap_alloc_old x2 _ (by show wr.heap.size < x2.heap.size; omega))]; exact s2.out.2⟩
        replace bwr2 := Lib.hid bwr2
        replace hown3 := Lib.hid hown3
        replace hrow3 := Lib.hid hrow3
        replace s3 := Lib.hid s3
        refine hK.out _ _ s3.out ?_
        clear hK K
        refine WO.seg rfl ?_ s3.out
        simp only [picks]
        refine wpQuiet_nil ?_
        intro K hK
        refine step_append_rows rfl (.tmp 23) (.tmp 34) 22 rfl wA.heap.size 39 7 88 _ Try.underlying22 info39 (by rfl) (by omega) eRw len_eRw one_eRw B d rs (some ⟨x2.heap.size, 0, none⟩) 1 (x2.heap.size + 1) q 1 [⟨kx.k.f, A2, c2, B2, d2⟩] (by rfl) (by rfl) hrl.out rfl hown3.out hrow3.out (by omega) (by omega) (by rw [World.size_alloc]; omega) ?_
        intro B4 d4 x4 ho4 hg4 hk4
        have lo := ho.out.own.lo
        have hzz : wr.heap.size < x2.heap.size := by omega
        have s4 : BelC wA wr.heap.size (.int .i64 m.p) x4 := ⟨s3.out.1.grown hg4 s3.out.1.size (fun k hk => (lo k hk).1), (hg4.cell_far ⟨wr.heap.size, 0, none⟩ (by rw [World.size_alloc]; exact Nat.lt_succ_of_lt hzz) (by intro e; exact absurd (lo wr.heap.size e.symm).2 (Nat.lt_irrefl _))).trans s3.out.2⟩
        have hf4 := ho.out.push (r := ⟨kx.k.f, A2, c2, B2, d2⟩) bwr2.out hzr ((hs2.out).base (by show wr.heap.size ≤ x1.heap.size; omega)) ((hh2.out).base (by show wr.heap.size ≤ x1.heap.size; omega)) _ ho4 hg4
        replace s4 := Lib.hid s4
        replace hf4 := Lib.hid hf4
        clear ho4 hg4 hk4 lo
        simp only [Act.put, List.setIfInBounds_toArray, List.set_cons_zero, List.set_cons_succ]
        refine hK.out _ _ s4.out ?_
        clear hK K
        refine WO.end_ ?_
        simp only [picks, pick, List.cons_append, List.nil_append, List.append_nil]
        repeat go_big_quiet_step (fail)
        refine wpQuiet_nil ?_
        clear hC
        go_wp2
        go_roundw
        case rel => go_light; exact ⟨q + 1, B4, d4, rs ++ [⟨kx.k.f, A2, c2, B2, d2⟩], by go_num, by omega, rfl, by rw [List.length_append, hrl.out]; rfl, by show List.map _ _ = _; rw [List.map_append, hrs.out, htk.out]; rfl, hf4.out, s4.out.1⟩
        case measure => go_light; simp [intOf]; omega
      · obtain rfl : q = who.length := by omega
        have hfin : rs.map Rw.f = who.map (cntF s) := by rw [hrs.out, List.take_length]
        have hlen : (who.map (cntF s)).length = who.length := List.length_map ..
        replace hfin := Lib.hid hfin
        replace hlen := Lib.hid hlen
        go_wp2
        go_ret2
        refine ⟨hbA.out.trans (hb.out.mono (by have := zA.out; omega)), B, d, rs, ?_, hfin.out, ho.out.base (by have := zA.out; omega)⟩
        rw [hlen.out]; rfl
set_option maxRecDepth 100000 in
set_option maxHeartbeats 2000000 in
theorem rcontents_any {w : World} {F : List Nat} {b g : Nat} {s : Sto} {ks : List KpX} {Mp : Option Addr} {cM : Nat} {ms : List Dr} (h : StV w F b g 1 2 s ks Mp cM ms) (hn : w.cell? ⟨b, 0, none⟩ = some (.int .i64 s.n)) (e l i c : Int) (A : Option Addr) (cA N : Nat) (who : List Mm) (hN : N ≤ w.heap.size) (hA : RowAt w N 3 eMm A who) (hl : who.length ≤ 1048576) :
    Calls Try.prog 83 #[.pointer (some ⟨b, 0, none⟩), .agg #[.int .i64 e, .int .i64 l, .int .i64 i, .int .i64 c], .slice A who.length cA] w (CtPost w (s.contents e l i c who)) := by
  obtain ⟨wA, hwA⟩ : ∃ wA, wA = w.alloc (.cells #[.int .i64 e, .int .i64 l, .int .i64 i, .int .i64 c] 35) := ⟨_, rfl⟩
  have hbA : Below w.heap.size w wA := by rw [hwA]; exact below_box1 _ _ _
  have zA : wA.heap.size = w.heap.size + 1 := by rw [hwA]; simp
  have oA : wA.rangeAt w.heap.size 0 [.int .i64 e, .int .i64 l, .int .i64 i, .int .i64 c] := by rw [hwA]; exact range_new w #[.int .i64 e, .int .i64 l, .int .i64 i, .int .i64 c] 35
  have hbz := h.hi b h.bF
  have hgz := h.hi g h.gF
  have hiv := h.inv
  have hx : ∀ W, Below wA.heap.size wA W → RowAt W N 3 eMm A who ∧ StV W F b g 1 2 s ks Mp cM ms ∧ W.rangeAt w.heap.size 0 [.int .i64 e, .int .i64 l, .int .i64 i, .int .i64 c] ∧ W.cell? ⟨b, 0, none⟩ = some (.int .i64 s.n) := fun W hW =>
    ⟨(hA.below hbA hN).below hW (by omega), (h.below hbA).below hW, range_same oA (hW.block w.heap.size (by omega)), (hW.cell (p := ⟨b, 0, none⟩) (by show b < _; omega)).trans ((hbA.cell (p := ⟨b, 0, none⟩) hbz).trans hn)⟩
  replace hx := Lib.hid hx
  replace hbA := Lib.hid hbA
  replace hwA := Lib.hid hwA
  replace zA := Lib.hid zA
  replace hiv := Lib.hid hiv
  clear h oA hA hn
  go_enter Try.func83, Try.ntmps83
  go_wp2_with fail
  rw [← hwA.out]
  go_loopw [8, 9] (fun v k wr => ∃ (q : Nat) (B : Option Addr) (d : Nat) (rs : List Rw), k = .int .i64 q ∧ q ≤ who.length ∧ v = .slice B q d ∧ rs.length = q ∧ Hid (rs.map Rw.f = (who.take q).map (cntF s)) ∧ Hid ((who.take q).all (s.hereB e l i c) = true) ∧ OwnFs wr wA.heap.size B d rs ∧ Below wA.heap.size wA wr) (fun _ k _ => who.length - (intOf k).toNat)
  case atStart => exact ⟨0, none, 0, [], rfl, by omega, rfl, rfl, by show List.map _ _ = _; simp, by show List.all _ _ = _; simp, ownFs_nil _ _, Below.refl _ _⟩
  case round =>
    obtain ⟨q, B, d, rs, rfl, hq, rfl, hrl, hrs, hal, ho, hb⟩ := hrel
    have hzr := hb.size
    replace hrl := Lib.hid hrl
    replace ho := Lib.hid ho
    replace hb := Lib.hid hb
    by_cases hlt : q < who.length
    · obtain ⟨g1, o1, rfl, hg1, hc1⟩ := (hx.out _ hb.out).1 (by omega)
      have hm : who[q]? = some who[q] := List.getElem?_eq_getElem hlt
      obtain ⟨m, hme⟩ : ∃ m, m = who[q] := ⟨_, rfl⟩
      rw [← hme] at hm
      have hmr : wr.rangeAt g1 (o1 + q * 3) (eMm m) := fun j u hu => hc1 q m hm j u hu
      have hq0 : (0 : Int) ≤ (q : Int) := by omega
      have hq1 : (q : Int) < (who.length : Int) := by omega
      replace hme := Lib.hid hme
      replace hm := Lib.hid hm
      replace hmr := Lib.hid hmr
      clear hc1
      have bd : Below wr.heap.size wr wr.drew := Below.drew (Below.refl _ _)
      have hC : ∀ x' : Prop, (∀ W, Below wr.heap.size wr W → x') ↔ x' := fun x' => ⟨fun f => f _ (Below.refl _ _), fun f _ _ => f⟩
      have La : ∀ W, Below wr.heap.size wr W → (loadVar 35 ⟨w.heap.size, 0, none⟩).run Try.prog W = .ok (.agg #[.int .i64 e, .int .i64 l, .int .i64 i, .int .i64 c]) W := fun W hW => load35 (hx.out _ (hb.out.trans (hW.mono hzr))).2.2.1
      have Lb : ∀ W, Below wr.heap.size wr W → (loadVar 168 ⟨g1, o1 + q * 3, none⟩).run Try.prog W = .ok (.agg #[.int .i64 m.p, .int .i64 m.i, .int .i64 m.c]) W := fun W hW => load168 (range_same hmr.out (hW.block g1 (by have := zA.out; omega)))
      obtain ⟨-, h1, -, n1⟩ := hx.out _ (hb.out.trans (bd.mono hzr))
      replace h1 := Lib.hid h1
      replace n1 := Lib.hid n1
      replace La := Lib.hid La
      replace Lb := Lib.hid Lb
      replace bd := Lib.hid bd
      go_wp2_with fail
      refine wp_region_ord [([0, 1, 2, 3, 4, 5], 6)] [7] (fun W => Below wr.heap.size wr W) rfl (by kernel_rfl) rfl bd.out ?_
      refine WO.seg rfl ?_ bd.out
      simp only [picks, pick, List.cons_append, List.nil_append, List.append_nil]
      repeat (first
        | go_big_quiet_skip
        | (refine wpQuiet_loadC (by rfl) 35 (.tmp 4) rfl w.heap.size 0 (by rfl) _ La.out ?_; simp only [Act.put, List.setIfInBounds_toArray, List.set_cons_zero, List.set_cons_succ])
        | (refine wpQuiet_loadC (by rfl) 168 (.tmp 21) rfl g1 (o1 + q * 3) (by rfl) _ Lb.out ?_; simp only [Act.put, List.setIfInBounds_toArray, List.set_cons_zero, List.set_cons_succ])
        | go_big_quiet_step (fail))
      refine wpQuiet_nil ?_
      intro K hK
      go_simp
      go_at_call 104
      refine (rhere_any h1.out n1.out e l i c m).mono ?_
      rintro e' x2 ⟨rfl, hb2⟩
      have b2 : Below wr.heap.size wr x2 := bd.out.trans hb2
      have bA2 := hb.out.trans (b2.mono hzr)
      have ho2 : OwnFs x2 wA.heap.size B d rs := ⟨ho.out.own.keep b2 (fun k hk => (ho.out.own.lo k hk).2), fun r hr => ⟨(ho.out.each r hr).1.keep b2 (fun k hk => ((ho.out.each r hr).1.lo k hk).2), (ho.out.each r hr).2.keep b2 (fun k hk => ((ho.out.each r hr).2.lo k hk).2)⟩, ho.out.dis⟩
      have z2 : wr.heap.size ≤ x2.heap.size := b2.size
      replace b2 := Lib.hid b2
      replace bA2 := Lib.hid bA2
      replace ho2 := Lib.hid ho2
      clear hb2
      go_wp2_with fail
      refine hK.out _ _ b2.out ?_
      clear hK K
      refine WO.end_ ?_
      simp only [picks, pick, List.cons_append, List.nil_append, List.append_nil]
      repeat go_big_quiet_step (fail)
      refine wpQuiet_nil ?_
      clear hC La Lb
      cases hh : s.hereB e l i c m with
      | false =>
        have hno : s.contents e l i c who = none := by
          unfold Sto.contents
          rw [if_neg]
          intro ha
          have := List.all_eq_true.1 ha m (List.mem_of_getElem? hm.out)
          rw [hh] at this; cases this
        replace hno := Lib.hid hno
        go_wp2
        go_ret2
        rw [hno.out]
        exact ⟨hbA.out.trans (bA2.out.mono (by have := zA.out; omega)), rfl⟩
      | true =>
        obtain ⟨hp1, hp2⟩ := here_range hh
        obtain ⟨p, hp⟩ := Int.eq_ofNat_of_zero_le hp1
        have hpn : p < s.n := by omega
        have hal2 : (who.take (q + 1)).all (s.hereB e l i c) = true := by
          rw [List.take_add_one, hm.out, List.all_append, hal.out]; simp [hh]
        have htk : (who.take (q + 1)).map (cntF s) = (who.take q).map (cntF s) ++ [(s.kp p).f] := by
          rw [List.take_add_one, hm.out, List.map_append]
          show _ ++ [cntF s m] = _
          unfold cntF; rw [show m.p.toNat = p by omega]
        obtain ⟨kx, hkx, hkk, hkr, hkf⟩ := (hx.out _ (bA2.out.drew)).2.1.kp hpn
        obtain ⟨hk1, hk2⟩ := kp_small hiv.out p
        rw [← hkk] at htk hk1 hk2
        have hS : ∀ W : World, Below wA.heap.size wA W → (loadVar 138 ⟨b, 1, none⟩).run Try.prog W = .ok (.slice (some ⟨g, 0, none⟩) s.n s.n) W := fun W hW => load138 (hx.out _ hW).2.1.ck
        have hS2 : ∀ W : World, Below wA.heap.size wA W → (loadVar 3 ⟨g1, o1 + q * 3, none⟩).run Try.prog W = .ok (.int .i64 p) W := fun W hW => by
          obtain ⟨g9, o9, e9, _, hc9⟩ := (hx.out _ hW).1 (by omega)
          injection e9 with e9; injection e9 with e9 e10; subst e9 e10
          exact load3 (by rw [← hp]; exact hc9 q m hm.out 0 _ rfl)
        have hS3 : ∀ W : World, Below wA.heap.size wA W → (loadVar 39 ⟨g, p * 8 + 1, none⟩).run Try.prog W = .ok (.agg (flc kx.k.f.e kx.k.f.l kx.k.f.i kx.k.f.c kx.k.f.base kx.A kx.k.f.slots.length kx.cA kx.B kx.k.f.have_.length kx.cB)) W := fun W hW => by
          refine load39 ?_
          have hr8 := (hx.out _ hW).2.1.krow p kx hkx
          exact fun j u hu => by
            have h9 := hr8 (j + 1) u hu
            rw [show p * 8 + 1 + j = p * 8 + (j + 1) by omega]; exact h9
        have s1 : Below wA.heap.size wA x2.drew := bA2.out.drew
        have hC : ∀ x' : Prop, (∀ W : World, Below wA.heap.size wA W → x') ↔ x' := fun x' => ⟨fun f => f _ s1, fun f _ _ => f⟩
        have hpz0 : (0 : Int) ≤ (p : Int) := by omega
        have hpz1 : (p : Int) < (s.n : Int) := by omega
        have hfr := hkf.rows
        replace hfr := Lib.hid hfr
        replace hkx := Lib.hid hkx
        replace hkk := Lib.hid hkk
        replace hkr := Lib.hid hkr
        replace hkf := Lib.hid hkf
        replace hS := Lib.hid hS
        replace hS2 := Lib.hid hS2
        replace hS3 := Lib.hid hS3
        replace s1 := Lib.hid s1
        replace htk := Lib.hid htk
        replace hal2 := Lib.hid hal2
        replace hp := Lib.hid hp
        clear hp1 hp2 hh
        go_wp2_with fail
        refine wp_region_ord [([0, 1, 2, 3, 4, 5, 6, 7, 8, 9, 10, 11, 12], 13), ([], 14), ([], 15)] [16] (fun W => Below wA.heap.size wA W) rfl (by kernel_rfl) rfl s1.out ?_
        refine WO.seg rfl ?_ s1.out
        simp only [picks, pick, List.cons_append, List.nil_append, List.append_nil]
        repeat (first
          | go_big_quiet_skip
          | (refine wpQuiet_loadC (by rfl) 138 (.tmp 29) rfl b 1 (by rfl) _ hS.out ?_; simp only [Act.put, List.setIfInBounds_toArray, List.set_cons_zero, List.set_cons_succ])
          | (refine wpQuiet_loadC (by rfl) 3 (.tmp 34) rfl g1 (o1 + q * 3) (by rfl) _ hS2.out ?_; simp only [Act.put, List.setIfInBounds_toArray, List.set_cons_zero, List.set_cons_succ])
          | (refine wpQuiet_loadC (by rfl) 39 (.tmp 37) rfl g (p * 8 + 1) (by rfl) _ hS3.out ?_; simp only [Act.put, List.setIfInBounds_toArray, List.set_cons_zero, List.set_cons_succ])
          | go_big_quiet_step (fail))
        refine wpQuiet_nil ?_
        intro K hK
        go_simp
        go_at_call 107
        refine (copyOf_any kx.k.f kx.A kx.cA kx.B kx.cB x2.drew.heap.size x2.drew (Nat.le_refl _) hfr.out.slots hfr.out.have_ hk1 hk2).mono ?_
        rintro e' x3 ⟨A2, c2, B2, d2, rfl, hs2, hh2, hb2⟩
        have zb2 : x2.heap.size ≤ x3.heap.size := hb2.size
        have s2 : Below wA.heap.size wA x3 := s1.out.trans (hb2.mono (by have := bA2.out.size; exact this))
        have bwr2 : Below x2.heap.size x2 x3 := ((Below.refl _ _).drew).trans hb2
        replace hs2 := Lib.hid hs2
        replace hh2 := Lib.hid hh2
        replace s2 := Lib.hid s2
        clear hb2
        go_wp2_with fail
        refine hK.out _ _ s2.out ?_
        clear hK K
        refine WO.seg rfl ?_ s2.out
        simp only [picks]
        refine wpQuiet_nil ?_
        intro K hK
        go_simp
        have hown3 := (ho2.out.own.keep bwr2 (fun k hk => (ho2.out.own.lo k hk).2)).alloc (.cells (flc kx.k.f.e kx.k.f.l kx.k.f.i kx.k.f.c kx.k.f.base A2 kx.k.f.slots.length c2 B2 kx.k.f.have_.length d2) 39)
        have hrow3 := row_new x3 39 7 eRw ⟨kx.k.f, A2, c2, B2, d2⟩ (flc kx.k.f.e kx.k.f.l kx.k.f.i kx.k.f.c kx.k.f.base A2 kx.k.f.slots.length c2 B2 kx.k.f.have_.length d2) rfl
        have s3 : Below wA.heap.size wA (x3.alloc (.cells (flc kx.k.f.e kx.k.f.l kx.k.f.i kx.k.f.c kx.k.f.base A2 kx.k.f.slots.length c2 B2 kx.k.f.have_.length d2) 39)) := s2.out.alloc s2.out.size _
        replace bwr2 := Lib.hid bwr2
        replace hown3 := Lib.hid hown3
        replace hrow3 := Lib.hid hrow3
        replace s3 := Lib.hid s3
        refine hK.out _ _ s3.out ?_
        clear hK K
        refine WO.seg rfl ?_ s3.out
        simp only [picks]
        refine wpQuiet_nil ?_
        intro K hK
        refine step_append_rows rfl (.tmp 26) (.tmp 40) 22 rfl wA.heap.size 39 7 88 _ Try.underlying22 info39 (by rfl) (by omega) eRw len_eRw one_eRw B d rs (some ⟨x3.heap.size, 0, none⟩) 1 (x3.heap.size + 1) q 1 [⟨kx.k.f, A2, c2, B2, d2⟩] (by rfl) (by rfl) hrl.out rfl hown3.out hrow3.out (by omega) (by omega) (by rw [World.size_alloc]; omega) ?_
        intro B4 d4 x4 ho4 hg4 hk4
        have lo := ho.out.own.lo
        have s4 : Below wA.heap.size wA x4 := s3.out.grown hg4 s3.out.size (fun k hk => (lo k hk).1)
        have hf4 := ho2.out.push (r := ⟨kx.k.f, A2, c2, B2, d2⟩) bwr2.out (by omega) hs2.out hh2.out _ ho4 hg4
        replace s4 := Lib.hid s4
        replace hf4 := Lib.hid hf4
        clear ho4 hg4 hk4 lo
        simp only [Act.put, List.setIfInBounds_toArray, List.set_cons_zero, List.set_cons_succ]
        refine hK.out _ _ s4.out ?_
        clear hK K
        refine WO.end_ ?_
        simp only [picks, pick, List.cons_append, List.nil_append, List.append_nil]
        repeat go_big_quiet_step (fail)
        refine wpQuiet_nil ?_
        clear hC
        go_wp2
        go_roundw
        case rel => go_light; exact ⟨q + 1, B4, d4, rs ++ [⟨kx.k.f, A2, c2, B2, d2⟩], by go_num, by omega, rfl, by rw [List.length_append, hrl.out]; rfl, by show List.map _ _ = _; rw [List.map_append, hrs.out, htk.out]; rfl, hal2, hf4.out, s4.out⟩
        case measure => go_light; simp [intOf]; omega
    · obtain rfl : q = who.length := by omega
      have hyes : s.contents e l i c who = some (who.map (cntF s)) := by
        have := hal.out
        rw [List.take_length] at this
        unfold Sto.contents; rw [this]; rfl
      have hfin : rs.map Rw.f = who.map (cntF s) := by rw [hrs.out, List.take_length]
      have hlen : (who.map (cntF s)).length = who.length := List.length_map ..
      replace hfin := Lib.hid hfin
      replace hlen := Lib.hid hlen
      replace hyes := Lib.hid hyes
      go_wp2
      go_ret2
      rw [hyes.out]
      refine ⟨hbA.out.trans (hb.out.mono (by have := zA.out; omega)), B, d, rs, ?_, hfin.out, ho.out.base (by have := zA.out; omega)⟩
      rw [hlen.out]; rfl
end Go.Proofs.Ytcffhfcjfjfokaa
