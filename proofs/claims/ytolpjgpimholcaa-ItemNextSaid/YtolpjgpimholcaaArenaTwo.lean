/- Both arenas at once, the program's and the reference's; the walks of chapter 05's tells and Same. -/
import Derived.Test.YtolpjgpimholcaaArenaKeeps
namespace Go.Proofs.Ytolpjgpimholcaa.Arena
open Go Go.RowKit Go.Proofs.Ytolpjgpimholcaa.Mem Go.Proofs.Ytolpjgpimholcaa.CodecPure Go.Proofs.Ytolpjgpimholcaa.ArenaPure Go.Proofs.Ytolpjgpimholcaa.Codec
set_option linter.unusedVariables false
set_option maxRecDepth 100000
/-- the program's arena as s says and the reference's as t says, in blocks from B on, apart from one another -/
structure Two (B : Nat) (w0 w : World) (a : Ar) (r : Ra) (s t : St) : Prop where
  here : Here B w0 w a s
  ref : RLies w r t
  low : B ≤ r.g ∧ B ≤ r.o ∧ B ≤ r.b
  apart : ∀ x, x = r.g ∨ x = r.o ∨ x = r.b → x ≠ a.g ∧ x ≠ a.ps ∧ x ∉ a.pb
variable {B : Nat} {w0 w w' : World} {a : Ar} {r : Ra} {s s' t t' : St}
theorem Two.opA (h : Two B w0 w a r s t) (hl : Lies w' a s') (hc : Chg (· ∈ a.pb) w w') : Two B w0 w' a r s' t :=
  ⟨h.here.now hl hc, h.ref.chg hc (h.apart _ (.inl rfl)).2.2 (h.apart _ (.inr (.inl rfl))).2.2 (h.apart _ (.inr (.inr rfl))).2.2, h.low, h.apart⟩
theorem Two.opR (h : Two B w0 w a r s t) (hl : RLies w' r t') (hc : Chg r.has w w') : Two B w0 w' a r s t' := by
  have k : ∀ x, r.has x → x ≠ a.g ∧ x ≠ a.ps ∧ x ∉ a.pb := fun x hx => h.apart x (.inr hx)
  exact ⟨⟨h.here.lies.chg hc (fun e => (k _ e).1 rfl) (fun e => (k _ e).2.1 rfl) fun b hb e => (k _ e).2.2 hb, h.here.chg.trans (hc.mono fun i _ hi => by rcases hi with e | e <;> rw [e] <;> have := h.low <;> omega), h.here.low⟩, hl, h.low, h.apart⟩
theorem Two.fresh (h : Two B w0 w a r s t) (hc : Chg (fun _ => False) w w') : Two B w0 w' a r s t :=
  ⟨h.here.fresh hc, h.ref.chg hc id id id, h.low, h.apart⟩
/-- the blocks that either writes -/
def T2 (a : Ar) (r : Ra) (x : Nat) : Prop := x ∈ a.pb ∨ r.has x
theorem Two.not2 (h : Two B w0 w a r s t) (x : Nat) (hx : w.heap.size ≤ x) : ¬ T2 a r x := fun e => by
  rcases e with e | e | e
  · have := h.here.pb_lt x e; omega
  · have := h.ref.o_lt; omega
  · have := h.ref.b_lt; omega
theorem Two.grant (h : Two B w0 w a r s t) (c : Int) : Calls Try.prog 59 #[(.pointer (some ⟨a.g, 0, none⟩)), (.int .i64 c)] w fun e w' => e = .returned (.tuple #[.int .i64 (ArenaPure.grant s c).2.1, .int .i64 (ArenaPure.grant s c).2.2]) ∧ Two B w0 w' a r (ArenaPure.grant s c).1 t ∧ Chg (T2 a r) w w' :=
  (grant_calls h.here.lies c).mono fun _ _ ⟨e, h1, h2⟩ => ⟨e, h.opA h1 h2, h2.mono fun _ _ => Or.inl⟩
theorem Two.rgrant (h : Two B w0 w a r s t) (c : Int) : Calls Try.prog 60 #[(.pointer (some ⟨r.g, 0, none⟩)), (.int .i64 c)] w fun e w' => e = .returned (.tuple #[.int .i64 (ArenaPure.grant t c).2.1, .int .i64 (ArenaPure.grant t c).2.2]) ∧ Two B w0 w' a r s (ArenaPure.grant t c).1 ∧ Chg (T2 a r) w w' :=
  (refgrant_calls h.ref c).mono fun _ _ ⟨e, h1, h2⟩ => ⟨e, h.opR h1 h2, h2.mono fun _ _ => Or.inr⟩
theorem Two.write (h : Two B w0 w a r s t) (at_ : Int) (A : Option Addr) (c : Nat) (l : List Int) (hs : Sl w .u8 A l) (hb : Bytes l) (hm : l.length ≤ 1000000000) (hx : -9223372036854775808 ≤ at_ ∧ at_ ≤ 9223372036854775807) :
    Calls Try.prog 61 #[(.pointer (some ⟨a.g, 0, none⟩)), (.int .i64 at_), .slice A l.length c] w fun e w' => e = .returned (.int .i64 (ArenaPure.write s at_ l).2) ∧ Two B w0 w' a r (ArenaPure.write s at_ l).1 t ∧ Chg (T2 a r) w w' :=
  (write_calls h.here.lies at_ A c l hs hb hm hx).mono fun _ _ ⟨e, h1, h2⟩ => ⟨e, h.opA h1 h2, h2.mono fun _ _ => Or.inl⟩
theorem Two.rwrite (h : Two B w0 w a r s t) (at_ : Int) (A : Option Addr) (c : Nat) (l : List Int) (hs : Sl w .u8 A l) (hb : Bytes l) (hf : l ≠ [] → ∀ ad, A = some ad → ¬ r.has ad.block) (hm : l.length ≤ 1000000000) (hx : -9223372036854775808 ≤ at_ ∧ at_ ≤ 9223372036854775807) :
    Calls Try.prog 62 #[(.pointer (some ⟨r.g, 0, none⟩)), (.int .i64 at_), .slice A l.length c] w fun e w' => e = .returned (.int .i64 (ArenaPure.write t at_ l).2) ∧ Two B w0 w' a r s (ArenaPure.write t at_ l).1 ∧ Chg (T2 a r) w w' :=
  (refwrite_calls h.ref at_ A c l hs hb hf hm hx).mono fun _ _ ⟨e, h1, h2⟩ => ⟨e, h.opR h1 h2, h2.mono fun _ _ => Or.inr⟩
theorem Two.setnumber (h : Two B w0 w a r s t) (at_ n v : Int) (hx : -9223372036854775808 ≤ at_ ∧ at_ ≤ 9223372036854775807) (h0 : 0 ≤ v) (h1 : v < 18446744073709551616) :
    Calls Try.prog 64 #[(.pointer (some ⟨a.g, 0, none⟩)), (.int .i64 at_), (.int .i64 n), (.int .u64 v)] w fun e w' => e = .returned (.int .i64 (setNumber s at_ n v).2) ∧ Two B w0 w' a r (setNumber s at_ n v).1 t ∧ Chg (T2 a r) w w' :=
  (setnumber_calls h.here.lies at_ n v hx h0 h1).mono fun _ _ ⟨e, h1, h2⟩ => ⟨e, h.opA h1 h2, h2.mono fun _ _ => Or.inl⟩
theorem Two.rsetnumber (h : Two B w0 w a r s t) (at_ n v : Int) (hx : -9223372036854775808 ≤ at_ ∧ at_ ≤ 9223372036854775807) (h0 : 0 ≤ v) (h1 : v < 18446744073709551616) :
    Calls Try.prog 100 #[(.pointer (some ⟨r.g, 0, none⟩)), (.int .i64 at_), (.int .i64 n), (.int .u64 v)] w fun e w' => e = .returned (.int .i64 (setNumber t at_ n v).2) ∧ Two B w0 w' a r s (setNumber t at_ n v).1 ∧ Chg (T2 a r) w w' :=
  (refsetnumber_calls h.ref at_ n v hx h0 h1).mono fun _ _ ⟨e, h1, h2⟩ => ⟨e, h.opR h1 h2, h2.mono fun _ _ => Or.inr⟩
theorem Two.setplace (h : Two B w0 w a r s t) (at_ p : Int) (hx : -9223372036854775808 ≤ at_ ∧ at_ ≤ 9223372036854775807) (hp : -9223372036854775808 ≤ p ∧ p ≤ 9223372036854775807) :
    Calls Try.prog 67 #[(.pointer (some ⟨a.g, 0, none⟩)), (.int .i64 at_), (.int .i64 p)] w fun e w' => e = .returned (.int .i64 (setPlace s at_ p).2) ∧ Two B w0 w' a r (setPlace s at_ p).1 t ∧ Chg (T2 a r) w w' :=
  (setplace_calls h.here.lies at_ p hx hp).mono fun _ _ ⟨e, h1, h2⟩ => ⟨e, h.opA h1 h2, h2.mono fun _ _ => Or.inl⟩
theorem Two.rsetplace (h : Two B w0 w a r s t) (at_ p : Int) (hx : -9223372036854775808 ≤ at_ ∧ at_ ≤ 9223372036854775807) (hp : -9223372036854775808 ≤ p ∧ p ≤ 9223372036854775807) :
    Calls Try.prog 102 #[(.pointer (some ⟨r.g, 0, none⟩)), (.int .i64 at_), (.int .i64 p)] w fun e w' => e = .returned (.int .i64 (setPlace t at_ p).2) ∧ Two B w0 w' a r s (setPlace t at_ p).1 ∧ Chg (T2 a r) w w' :=
  (refsetplace_calls h.ref at_ p hx hp).mono fun _ _ ⟨e, h1, h2⟩ => ⟨e, h.opR h1 h2, h2.mono fun _ _ => Or.inr⟩
/-- an answer, and both arenas as they were -/
def TwoB (B : Nat) (w0 w : World) (a : Ar) (r : Ra) (s t : St) (v : Value) (e : Ending) (w' : World) : Prop := e = .returned v ∧ Two B w0 w' a r s t ∧ Chg (fun _ => False) w w'
theorem free_le (s : St) (hs : Ok s) : free s ≤ 32 := Nat.le_trans List.countP_le_length hs.high
set_option maxHeartbeats 2000000 in
set_option maxRecDepth 100000 in
theorem same_calls (h : Two B w0 w a r s s) : Calls Try.prog 45 #[(.pointer (some ⟨a.g, 0, none⟩)), (.pointer (some ⟨r.g, 0, none⟩))] w fun e w' => e = .returned (.bool true) ∧ Two B w0 w' a r s s := by
  have H0 := Lib.hid h
  have k1 := h.ref.hdO
  have r1 := h.here.lies.ok.high
  have D : Hid (∀ n, Two B w0 (w.drewN n) a r s s) := fun n => h.fresh (Chg.drewN _ _ _)
  have PC : Hid (∀ n, Calls Try.prog 70 #[(.pointer (some ⟨a.g, 0, none⟩))] (w.drewN n) fun e w' => e = .returned (.int .i64 s.own.length) ∧ w' = w.drewN n) := fun n => (pages_calls (D.out n).here.lies).mono fun _ _ ⟨e, h⟩ => ⟨e, h.symm⟩
  have FC : Hid (∀ n, Calls Try.prog 87 #[(.pointer (some ⟨a.g, 0, none⟩))] (w.drewN n) fun e w' => e = .returned (.int .i64 (free s)) ∧ w' = w.drewN n) := fun n => (free_calls (D.out n).here.lies).mono fun _ _ ⟨e, h⟩ => ⟨e, h.symm⟩
  have RC : Hid (∀ n, Calls Try.prog 88 #[(.pointer (some ⟨r.g, 0, none⟩))] (w.drewN n) fun e w' => e = .returned (.int .i64 (free s)) ∧ w' = w.drewN n) := fun n => (reffree_calls (D.out n).ref).mono fun _ _ ⟨e, h⟩ => ⟨e, h.symm⟩
  clear h
  generalize free s = fr at FC RC
  generalize hn : s.own.length = n at k1 r1 PC
  have HN := Lib.hid hn
  clear hn
  go_enter Try.func45, Try.ntmps45
  go_wp2_with fail
  go_quiet ((first | (go_at_call 70; exact Calls.quiet_of_same (PC.out _)) | (go_at_call 87; exact Calls.quiet_of_same (FC.out _)) | (go_at_call 88; exact Calls.quiet_of_same (RC.out _))))
  have H1 := Lib.hid (D.out nq)
  clear PC FC RC D k1 H0
  generalize w.drewN nq = w1 at H1 ⊢
  go_wp2
  go_loopg [5] (n + 2) (fun g i wr => ∃ k : Nat, i = .int .i64 ((k : Int) - 1) ∧ g = n + 2 - k ∧ k ≤ n + 2 ∧ Hid (Two B w0 wr a r s s))
  case atStart => exact ⟨0, by go_num, rfl, by omega, H1.out⟩
  case round =>
    obtain ⟨k, rfl, hg, hk, H2⟩ := hrel
    have hg2 := Lib.hid hg
    clear hg
    have k2 := H2.out.ref.hdO
    rw [HN.out] at k2
    have OW := owner_calls H2.out.here.lies ((k : Int) - 1)
    unfold owner at OW
    rw [HN.out] at OW
    by_cases h0 : k = 0
    · subst h0
      have e : ((0 : Nat) : Int) - 1 = -1 := by omega
      rw [e, if_pos (by omega)] at OW
      have OW := Lib.hid OW
      rw [e]
      clear e
      go_wp2_with (go_at_call 89; refine (OW.out).mono ?_; rintro e w' ⟨rfl, rfl⟩)
      go_roundg (n + 1)
      case measure => have := hg2.out; omega
      case rel => exact ⟨1, by go_num, by omega, by omega, H2.out⟩
    · obtain ⟨j, rfl⟩ : ∃ j, k = j + 1 := ⟨k - 1, by omega⟩
      have e : (((j + 1 : Nat)) : Int) - 1 = j := by omega
      rw [e] at OW ⊢
      clear e h0
      by_cases h1 : j < n
      · rw [if_neg (by omega), Int.toNat_natCast] at OW
        obtain ⟨d, ed⟩ : ∃ d, s.own.getD j 0 = d := ⟨_, rfl⟩
        rw [ed] at OW
        have ED := Lib.hid ed
        have OW := Lib.hid OW
        have h1' : (j : Int) < n := by omega
        have hj : Hid (j < s.own.length) := by rw [HN.out]; exact h1
        clear ed
        have bnd : -9223372036854775808 ≤ 1024 * (j : Int) ∧ 1024 * (j : Int) ≤ 9223372036854775807 := by omega
        have B1 := Lib.hid bnd
        clear bnd
        go_wp2_with (go_at_call 89; refine (OW.out).mono ?_; rintro e w' ⟨rfl, rfl⟩)
        refine (read_calls H2.out.here.lies (1024 * (j : Int)) 1024 B1.out).mono ?_
        rintro e w2 ⟨A1, c1, rfl, o1, q1⟩
        have H3 := Lib.hid (H2.out.fresh q1)
        have O1 := Lib.hid o1
        clear o1 q1 k2
        have k3 := H3.out.ref.hdO
        rw [HN.out] at k3
        go_wp2_with fail
        refine (refread_calls H3.out.ref (1024 * (j : Int)) 1024 B1.out).mono ?_
        rintro e w3 ⟨A2, c2, rfl, o2, q2⟩
        have H4 := Lib.hid (H3.out.fresh q2)
        have S1 := Lib.hid (O1.out.chg q2 fun _ _ => id).sl
        have S2 := Lib.hid o2.sl
        clear o2 q2 k3
        have k4 := H4.out.ref.hdO
        rw [HN.out] at k4
        have k5 := (H4.out.ref.own.cellAt j hj.out).1
        rw [ED.out] at k5
        have kc1 : (Go.convert 52 9 (.slice A1 (readA s (1024 * (j : Int)) 1024).1.length c1)).run Try.prog w3 = .ok (.string (strOfNums (readA s (1024 * (j : Int)) 1024).1)) w3 := conv_sl (c := c1) Try.underlying52 Try.underlying5 Try.underlying9 S1.out
        have kc2 : (Go.convert 52 9 (.slice A2 (readA s (1024 * (j : Int)) 1024).1.length c2)).run Try.prog w3 = .ok (.string (strOfNums (readA s (1024 * (j : Int)) 1024).1)) w3 := conv_sl (c := c2) Try.underlying52 Try.underlying5 Try.underlying9 S2.out
        clear S1 S2 O1 hj
        generalize (readA s (1024 * (j : Int)) 1024).1 = l1 at kc1 kc2 ⊢
        generalize (readA s (1024 * (j : Int)) 1024).2 = e1
        generalize strOfNums l1 = str at kc1 kc2
        go_wp2
        go_roundg (n + 2 - (j + 1 + 1))
        case measure => have := hg2.out; omega
        case rel => exact ⟨j + 1 + 1, by go_num, rfl, by omega, H4.out⟩
      · by_cases h2 : j = n
        · subst h2
          rw [if_pos (by omega)] at OW
          have OW := Lib.hid OW
          go_wp2_with (go_at_call 89; refine (OW.out).mono ?_; rintro e w' ⟨rfl, rfl⟩)
          go_roundg (j + 2 - (j + 1 + 1))
          case measure => have := hg2.out; omega
          case rel => exact ⟨j + 1 + 1, by go_num, rfl, by omega, H2.out⟩
        · have h3 : (n : Int) < j := by omega
          clear OW
          go_wp2
          go_ret
          exact ⟨rfl, H2.out⟩

end Go.Proofs.Ytolpjgpimholcaa.Arena
