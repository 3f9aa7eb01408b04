/- The statement's own function PacketTotal tells true of whatever bytes: by a walk over its code and the plain law. Conditions: those of the theorem. -/
import Derived.Test.YtjpglpdfopeegaaPktAwake
namespace Go.Proofs.Ytjpglpdfopeegaa.Mine
open Go.RowKit
set_option linter.unusedVariables false
set_option linter.unusedSimpArgs false

theorem wpList_load_row_g {P : Program} {ops : Array Oper} {rest : List Oper} {o : Oper} {a : Act} {w : World} {Q : Exit → Act → World → Prop} (hw : Region.wanted o (yielded ops a.tmps) = true) (ty : TypeId) (x : Operand) (ho : o.op = .load ty x)
    (g : Nat) (hx : a.eval x = .pointer (some ⟨g, 0, none⟩)) (t : TypeId) (cs : Array Value) (fr : Nat × Nat) (d : TypeDesc) (hg : w.heap[g]? = some (.cells cs t fr))
    (hu : P.underlying ty = some d) (hd : (match d with | .struct _ | .array _ _ => true | _ => false) = true) (hi : (P.info? ty).map (·.size) = some cs.size)
    (h : wpList P ops Q rest (a.put o.dst (.agg cs)) w) : wpList P ops Q (o :: rest) a w :=
  BigFrame.wpList_want hw fun _ hK => wp_load_row ty x ho g hx t cs fr d hg hu hd hi (hK _ _ h)
theorem total_long (A : Option Addr) (n c : Nat) (w : World) (hn : 300 < n) :
    Calls Try.prog 7 #[.slice A n c] w fun e w' => e = .returned (.bool true) ∧ Below w.heap.size w w' := by
  have h1 : (300 : Int) < (n : Int) := by omega
  go_enter Try.func7, Try.ntmps7
  go_wp2_with (go_at_call 8; (with_reducible refine (awake_any _).mono ?_); rintro _ w1 ⟨rfl, q1⟩)
  go_ret
  exact ⟨rfl, q1⟩
theorem encD (D : Pk) (hD : D.ok) (hr : D.right = true) (bs : List UInt8) (hb : sumL D.body = bs) (hl : D.data.length ≤ 1000) (n : Nat) (hn : bs.length = n) (Ad : Option Addr) (cd : Nat) (L : Array Value) (hL : Hid (L = D.cells Ad cd)) (W : World) (hB : Byt W Ad D.data) (hc : D.data.length ≤ cd) :
    Calls Try.prog 9 #[.agg L] W (EncPost n bs W) := by
  subst hb
  rw [hL.out]
  exact encR D hD hr n hn Ad cd W hB hc hl
theorem encA (a : An) (ha : a.ok) (hr : a.right = true) (bs : List UInt8) (hb : sumL a.body = bs) (n : Nat) (hn : bs.length = n) (M : Array Value) (hM : Hid (M = a.cells)) (W : World) :
    Calls Try.prog 15 #[.agg M] W (EncPost n bs W) := by
  subst hb
  rw [hM.out]
  exact encAR a ha hr n hn W
set_option maxHeartbeats 4000000 in
theorem total_any (A : Option Addr) (c : Nat) (bs : List UInt8) (w : World) (hB : Byt w A bs) (hc : bs.length ≤ c) (hcm : c ≤ maxLen) (hn : bs.length ≤ 300) :
    Calls Try.prog 7 #[.slice A bs.length c] w fun e w' => e = .returned (.bool true) ∧ Below w.heap.size w w' := by
  have dc := fun (W : World) (h : Byt W A bs) => decode_any A c bs W h hc hcm
  have da := fun (W : World) (h : Byt W A bs) => decodeAnswer_any A c bs W h hc hcm
  have is := fun (A' : Option Addr) (c' : Nat) (W : World) (h' : Byt W A' bs) (h : Byt W A bs) => is_any A' c' bs A c bs W h' h
  rw [show (bs == bs) = true by simp] at is
  have hd := Pk.dec_ok bs
  have hda := An.dec_ok bs
  have enD := fun n (hn : bs.length = n) D hD hr hb hl => encD D hD hr bs hb hl n hn
  have enA := fun n (hn : bs.length = n) a ha hr hb => encA a ha hr bs hb n hn
  obtain ⟨n, hnn⟩ : ∃ n, n = bs.length := ⟨_, rfl⟩
  rw [← hnn] at dc da is hc hn ⊢
  have HED := Lib.hid (enD n hnn.symm)
  have HEA := Lib.hid (enA n hnn.symm)
  clear hnn enD enA
  generalize Pk.dec bs = D at *
  generalize An.dec bs = a at *
  obtain ⟨Z, hZ⟩ : ∃ Z, Z = Pk.zero.cells none 0 := ⟨_, rfl⟩
  have HZ := Lib.hid hZ
  have HZb : Hid (Try.prog.built 29 [] = some Z) := by unfold Hid; rw [hZ]; exact built_pk0
  have HZs : Hid (Z.size = 38) := by unfold Hid; rw [hZ]; exact Pk.cells_size Pk.zero_ok _ _
  have HSm := Lib.hid (fun (Ad : Option Addr) (cd : Nat) (W : World) => same_any Pk.zero Pk.zero Pk.zero_ok Pk.zero_ok Ad cd none 0 W (Byt.nil _ _) (Byt.nil _ _))
  have HSm : Hid (∀ (Ad : Option Addr) (cd : Nat) (W : World), Calls Try.prog 19 #[.agg (Pk.zero.cells Ad cd), .agg Z] W fun e w' => e = .returned (.bool true) ∧ Below W.heap.size W w') := by
    unfold Hid; intro Ad cd W; rw [hZ]; have h := HSm.out Ad cd W; rw [show decide (Pk.zero = Pk.zero) = true by simp] at h; exact h
  clear hZ
  have hn3 : ¬ (300 : Int) < (n : Int) := by omega
  have HDC := Lib.hid dc
  have HDA := Lib.hid da
  have HIS := Lib.hid is
  clear dc da is
  have hok : D.1.ok := by
    rcases hd with h | h
    · exact h.2.1
    · rw [h]; exact Pk.zero_ok
  rcases hd with ⟨d0, d1, d2, d3, d4⟩ | hd <;> rcases hda with ⟨a0, a1, a2, a3⟩ | hda
  · have HD := Lib.hid (And.intro d1 (And.intro d2 (And.intro d3 d4)))
    obtain ⟨D, de⟩ := D
    dsimp only at *
    subst d0
    have hED := HED.out D d1 d2 d3 d4
    have HEDD := Lib.hid hED
    clear d1 d2 d3 d4 hED
    obtain ⟨⟨k, e, s, m⟩, ae⟩ := a
    dsimp only at *
    subst a0
    have HAn := Lib.hid (HEA.out _ a1 a2 a3 _ rfl)
    clear a1 a2 a3
    have hM4 : ((⟨k, e, s, m⟩ : An).cells).size = 4 := rfl
    have hM1 : ((⟨k, e, s, m⟩ : An).cells).all (·.oneCell') = true := An.one4 _ _ _ _
    generalize (⟨k, e, s, m⟩ : An).cells = Ma at *
    have HM4 : Hid ((Try.prog.info? 40).map (·.size) = some Ma.size) := by unfold Hid; rw [hM4]; exact Try.ansSize
    have HMz : Hid ((#[Value.int .u8 0, .int .i64 0, .int .u8 0, .int .u16 0]).size = Ma.size) := by unfold Hid; rw [hM4]; rfl
    have HM1 := Lib.hid hM1
    clear hM4 hM1
    go_enter Try.func7, Try.ntmps7
    go_wp2_with (first
      | (go_at_call 11
         (with_reducible refine (HDC.out _ hB).mono ?_)
         rintro _ w1 ⟨Ad, cd, rfl, hr1, q1⟩
         obtain ⟨L, hL⟩ : ∃ L, L = D.cells Ad cd := ⟨_, rfl⟩
         have HL := Lib.hid hL
         have HLs : Hid ((Try.prog.info? 29).map (·.size) = some L.size) := by unfold Hid; rw [hL]; exact Pk.size_eq hok _ _
         have HZL : Hid (Z.size = L.size) := by unfold Hid; rw [HZs.out, hL, Pk.cells_size hok]
         have HL1 : Hid (L.all (·.oneCell') = true) := by unfold Hid; rw [hL]; exact Pk.one _ _ _
         dsimp only
         rw [← hL]
         clear hL
         obtain ⟨Ad', cd', hee, hbd, hcd⟩ := hr1.form
         cases hee
         have hq2 := bcall q1 (balloc w1 (.cells L 29))
         have HG2 := Lib.hid (heap_alloc_new w1 (.cells L 29))
         have hbd2 := hbd.kept (balloc w1 (.cells L 29)))
      | (refine wpList_alloc_pk rfl Z HZ.out rfl ?_)
      | (refine wpList_store_pk w1 rfl 29 (.tmp 3) (.tmp 18) rfl Z L 29 rfl rfl rfl HLs.out HZL.out HL1.out ?_)
      | (go_at_call 17
         (with_reducible refine (HDA.out _ (hB.kept hq2)).mono ?_)
         rintro _ w2 ⟨rfl, q2⟩
         have hq3 := bcall (bcall hq2 q2) (balloc w2 (.cells Ma 40))
         have q3 := q2.trans ((balloc w2 (.cells Ma 40)).mono q2.size)
         have HG3 := Lib.hid ((q3.block _ (size_lt_alloc _ _)).trans HG2.out)
         have HA3 := Lib.hid (heap_alloc_new w2 (.cells Ma 40))
         have hbd3 := hbd2.kept q3)
      | (refine wpList_store_pk w2 rfl 40 (.tmp 5) (.tmp 23) rfl #[.int .u8 0, .int .i64 0, .int .u8 0, .int .u16 0] Ma 40 rfl rfl rfl HM4.out HMz.out HM1.out ?_)
      | (refine wpList_load_row_g rfl 29 (.tmp 3) rfl w1.heap.size rfl 29 L (0, 0) _ HG3.out Try.underlying29 rfl HLs.out ?_)
      | (go_at_call 9
         (with_reducible refine (HEDD.out _ _ _ HL _ hbd3 hcd).mono ?_)
         rintro _ w3 ⟨A3, c3, rfl, hr3, hb3, _, _, q4⟩
         have hq4 := bcall hq3 q4
         have HA4 := Lib.hid ((q4.block _ (size_lt_alloc _ _)).trans HA3.out))
      | (go_at_call 12
         (with_reducible refine (HIS.out _ _ _ hb3 (hB.kept hq4)).mono ?_)
         rintro _ _ ⟨rfl, rfl⟩)
      | (refine wpList_load_row_g rfl 40 (.tmp 5) rfl w2.heap.size rfl 40 Ma (0, 0) _ HA4.out Try.underlying40 rfl HM4.out ?_)
      | (go_at_call 15
         (with_reducible refine (HAn.out _).mono ?_)
         rintro _ w4 ⟨A4, c4, rfl, hr4, hb4, _, _, q5⟩
         have hq5 := bcall hq4 q5)
      | (go_at_call 12
         (with_reducible refine (HIS.out _ _ _ hb4 (hB.kept hq5)).mono ?_)
         rintro _ _ ⟨rfl, rfl⟩)
      | (go_at_call 8
         (with_reducible refine (awake_any _).mono ?_)
         rintro _ w6 ⟨rfl, q6⟩
         have hq6 := bcall hq5 q6))
    all_goals
      go_ret
      exact ⟨rfl, hq6⟩
  · have HD := Lib.hid (And.intro d1 (And.intro d2 (And.intro d3 d4)))
    obtain ⟨D, de⟩ := D
    dsimp only at *
    subst d0
    have hED := HED.out D d1 d2 d3 d4
    have HEDD := Lib.hid hED
    clear d1 d2 d3 d4 hED
    subst hda
    dsimp only at *
    obtain ⟨Ma, hMa⟩ : ∃ Ma : Array Value, Ma = #[.int .u8 0, .int .i64 0, .int .u8 0, .int .u16 0] := ⟨_, rfl⟩
    have HMa := Lib.hid hMa
    have hM4 : Ma.size = 4 := by rw [hMa]; rfl
    have hM1 : Ma.all (·.oneCell') = true := by rw [hMa]; exact An.one4 _ _ _ _
    rw [show An.zero.cells = Ma by rw [hMa]; rfl] at HDA
    clear hMa
    have HM4 : Hid ((Try.prog.info? 40).map (·.size) = some Ma.size) := by unfold Hid; rw [hM4]; exact Try.ansSize
    have HMz : Hid ((#[Value.int .u8 0, .int .i64 0, .int .u8 0, .int .u16 0]).size = Ma.size) := by unfold Hid; rw [hM4]; rfl
    have HM1 := Lib.hid hM1
    clear hM4 hM1
    go_enter Try.func7, Try.ntmps7
    go_wp2_with (first
      | (go_at_call 11
         (with_reducible refine (HDC.out _ hB).mono ?_)
         rintro _ w1 ⟨Ad, cd, rfl, hr1, q1⟩
         obtain ⟨L, hL⟩ : ∃ L, L = D.cells Ad cd := ⟨_, rfl⟩
         have HL := Lib.hid hL
         have HLs : Hid ((Try.prog.info? 29).map (·.size) = some L.size) := by unfold Hid; rw [hL]; exact Pk.size_eq hok _ _
         have HZL : Hid (Z.size = L.size) := by unfold Hid; rw [HZs.out, hL, Pk.cells_size hok]
         have HL1 : Hid (L.all (·.oneCell') = true) := by unfold Hid; rw [hL]; exact Pk.one _ _ _
         dsimp only
         rw [← hL]
         clear hL
         obtain ⟨Ad', cd', hee, hbd, hcd⟩ := hr1.form
         cases hee
         have hq2 := bcall q1 (balloc w1 (.cells L 29))
         have HG2 := Lib.hid (heap_alloc_new w1 (.cells L 29))
         have hbd2 := hbd.kept (balloc w1 (.cells L 29)))
      | (refine wpList_alloc_pk rfl Z HZ.out rfl ?_)
      | (refine wpList_store_pk w1 rfl 29 (.tmp 3) (.tmp 18) rfl Z L 29 rfl rfl rfl HLs.out HZL.out HL1.out ?_)
      | (go_at_call 17
         (with_reducible refine (HDA.out _ (hB.kept hq2)).mono ?_)
         rintro _ w2 ⟨rfl, q2⟩
         have hq3 := bcall (bcall hq2 q2) (balloc w2 (.cells Ma 40))
         have q3 := q2.trans ((balloc w2 (.cells Ma 40)).mono q2.size)
         have HG3 := Lib.hid ((q3.block _ (size_lt_alloc _ _)).trans HG2.out)
         have HA3 := Lib.hid (heap_alloc_new w2 (.cells Ma 40))
         have hbd3 := hbd2.kept q3)
      | (refine wpList_store_pk w2 rfl 40 (.tmp 5) (.tmp 23) rfl #[.int .u8 0, .int .i64 0, .int .u8 0, .int .u16 0] Ma 40 rfl rfl rfl HM4.out HMz.out HM1.out ?_)
      | (refine wpList_load_row_g rfl 29 (.tmp 3) rfl w1.heap.size rfl 29 L (0, 0) _ HG3.out Try.underlying29 rfl HLs.out ?_)
      | (go_at_call 9
         (with_reducible refine (HEDD.out _ _ _ HL _ hbd3 hcd).mono ?_)
         rintro _ w3 ⟨A3, c3, rfl, hr3, hb3, _, _, q4⟩
         have hq4 := bcall hq3 q4
         have HA4 := Lib.hid ((q4.block _ (size_lt_alloc _ _)).trans HA3.out))
      | (go_at_call 12
         (with_reducible refine (HIS.out _ _ _ hb3 (hB.kept hq4)).mono ?_)
         rintro _ _ ⟨rfl, rfl⟩)
      | (refine wpList_load_row_g rfl 40 (.tmp 5) rfl w2.heap.size rfl 40 Ma (0, 0) _ HA4.out Try.underlying40 rfl HM4.out ?_; rw [HMa.out])
      | (go_at_call 8
         (with_reducible refine (awake_any _).mono ?_)
         rintro _ w6 ⟨rfl, q6⟩
         have hq6 := bcall hq4 q6))
    all_goals
      go_ret
      exact ⟨rfl, hq6⟩
  · subst hd
    dsimp only at *
    obtain ⟨⟨k, e, s, m⟩, ae⟩ := a
    dsimp only at *
    subst a0
    have HAn := Lib.hid (HEA.out _ a1 a2 a3 _ rfl)
    clear a1 a2 a3
    have hM4 : ((⟨k, e, s, m⟩ : An).cells).size = 4 := rfl
    have hM1 : ((⟨k, e, s, m⟩ : An).cells).all (·.oneCell') = true := An.one4 _ _ _ _
    generalize (⟨k, e, s, m⟩ : An).cells = Ma at *
    have HM4 : Hid ((Try.prog.info? 40).map (·.size) = some Ma.size) := by unfold Hid; rw [hM4]; exact Try.ansSize
    have HMz : Hid ((#[Value.int .u8 0, .int .i64 0, .int .u8 0, .int .u16 0]).size = Ma.size) := by unfold Hid; rw [hM4]; rfl
    have HM1 := Lib.hid hM1
    clear hM4 hM1
    go_enter Try.func7, Try.ntmps7
    go_wp2_with (first
      | (go_at_call 11
         (with_reducible refine (HDC.out _ hB).mono ?_)
         rintro _ w1 ⟨Ad, cd, rfl, hr1, q1⟩
         obtain ⟨L, hL⟩ : ∃ L, L = Pk.zero.cells Ad cd := ⟨_, rfl⟩
         have HL := Lib.hid hL
         have HSL : Hid (∀ W : World, Calls Try.prog 19 #[.agg L, .agg Z] W fun e w' => e = .returned (.bool true) ∧ Below W.heap.size W w') := by
           have h := HSm.out Ad cd
           rw [← hL] at h
           exact h
         have HLs : Hid ((Try.prog.info? 29).map (·.size) = some L.size) := by unfold Hid; rw [hL]; exact Pk.size_eq hok _ _
         have HZL : Hid (Z.size = L.size) := by unfold Hid; rw [HZs.out, hL, Pk.cells_size hok]
         have HL1 : Hid (L.all (·.oneCell') = true) := by unfold Hid; rw [hL]; exact Pk.one _ _ _
         dsimp only
         rw [← hL]
         clear hL
         obtain ⟨Ad', cd', hee, hbd, hcd⟩ := hr1.form
         cases hee
         have hq2 := bcall q1 (balloc w1 (.cells L 29))
         have HG2 := Lib.hid (heap_alloc_new w1 (.cells L 29))
         have hbd2 := hbd.kept (balloc w1 (.cells L 29)))
      | (refine wpList_alloc_pk rfl Z HZ.out rfl ?_)
      | (refine wpList_store_pk w1 rfl 29 (.tmp 3) (.tmp 18) rfl Z L 29 rfl rfl rfl HLs.out HZL.out HL1.out ?_)
      | (go_at_call 17
         (with_reducible refine (HDA.out _ (hB.kept hq2)).mono ?_)
         rintro _ w2 ⟨rfl, q2⟩
         have hq3 := bcall (bcall hq2 q2) (balloc w2 (.cells Ma 40))
         have q3 := q2.trans ((balloc w2 (.cells Ma 40)).mono q2.size)
         have HG3 := Lib.hid ((q3.block _ (size_lt_alloc _ _)).trans HG2.out)
         have HA3 := Lib.hid (heap_alloc_new w2 (.cells Ma 40))
         have hbd3 := hbd2.kept q3)
      | (refine wpList_store_pk w2 rfl 40 (.tmp 5) (.tmp 23) rfl #[.int .u8 0, .int .i64 0, .int .u8 0, .int .u16 0] Ma 40 rfl rfl rfl HM4.out HMz.out HM1.out ?_)
      | (refine wpList_load_row_g rfl 29 (.tmp 3) rfl w1.heap.size rfl 29 L (0, 0) _ HG3.out Try.underlying29 rfl HLs.out ?_)
      | (refine wpList_build_g rfl 29 _ rfl Z HZb.out rfl ?_)
      | (go_at_call 19
         (with_reducible refine (HSL.out _).mono ?_)
         rintro _ w3 ⟨rfl, q4⟩
         have hq4 := bcall hq3 q4
         have HA4 := Lib.hid ((q4.block _ (size_lt_alloc _ _)).trans HA3.out))
      | (refine wpList_load_row_g rfl 40 (.tmp 5) rfl w2.heap.size rfl 40 Ma (0, 0) _ HA4.out Try.underlying40 rfl HM4.out ?_)
      | (go_at_call 15
         (with_reducible refine (HAn.out _).mono ?_)
         rintro _ w4 ⟨A4, c4, rfl, hr4, hb4, _, _, q5⟩
         have hq5 := bcall hq4 q5)
      | (go_at_call 12
         (with_reducible refine (HIS.out _ _ _ hb4 (hB.kept hq5)).mono ?_)
         rintro _ _ ⟨rfl, rfl⟩)
      | (go_at_call 8
         (with_reducible refine (awake_any _).mono ?_)
         rintro _ w6 ⟨rfl, q6⟩
         have hq6 := bcall hq5 q6))
    all_goals
      go_ret
      exact ⟨rfl, hq6⟩
  · subst hd
    dsimp only at *
    subst hda
    dsimp only at *
    obtain ⟨Ma, hMa⟩ : ∃ Ma : Array Value, Ma = #[.int .u8 0, .int .i64 0, .int .u8 0, .int .u16 0] := ⟨_, rfl⟩
    have HMa := Lib.hid hMa
    have hM4 : Ma.size = 4 := by rw [hMa]; rfl
    have hM1 : Ma.all (·.oneCell') = true := by rw [hMa]; exact An.one4 _ _ _ _
    rw [show An.zero.cells = Ma by rw [hMa]; rfl] at HDA
    clear hMa
    have HM4 : Hid ((Try.prog.info? 40).map (·.size) = some Ma.size) := by unfold Hid; rw [hM4]; exact Try.ansSize
    have HMz : Hid ((#[Value.int .u8 0, .int .i64 0, .int .u8 0, .int .u16 0]).size = Ma.size) := by unfold Hid; rw [hM4]; rfl
    have HM1 := Lib.hid hM1
    clear hM4 hM1
    go_enter Try.func7, Try.ntmps7
    go_wp2_with (first
      | (go_at_call 11
         (with_reducible refine (HDC.out _ hB).mono ?_)
         rintro _ w1 ⟨Ad, cd, rfl, hr1, q1⟩
         obtain ⟨L, hL⟩ : ∃ L, L = Pk.zero.cells Ad cd := ⟨_, rfl⟩
         have HL := Lib.hid hL
         have HSL : Hid (∀ W : World, Calls Try.prog 19 #[.agg L, .agg Z] W fun e w' => e = .returned (.bool true) ∧ Below W.heap.size W w') := by
           have h := HSm.out Ad cd
           rw [← hL] at h
           exact h
         have HLs : Hid ((Try.prog.info? 29).map (·.size) = some L.size) := by unfold Hid; rw [hL]; exact Pk.size_eq hok _ _
         have HZL : Hid (Z.size = L.size) := by unfold Hid; rw [HZs.out, hL, Pk.cells_size hok]
         have HL1 : Hid (L.all (·.oneCell') = true) := by unfold Hid; rw [hL]; exact Pk.one _ _ _
         dsimp only
         rw [← hL]
         clear hL
         obtain ⟨Ad', cd', hee, hbd, hcd⟩ := hr1.form
         cases hee
         have hq2 := bcall q1 (balloc w1 (.cells L 29))
         have HG2 := Lib.hid (heap_alloc_new w1 (.cells L 29))
         have hbd2 := hbd.kept (balloc w1 (.cells L 29)))
      | (refine wpList_alloc_pk rfl Z HZ.out rfl ?_)
      | (refine wpList_store_pk w1 rfl 29 (.tmp 3) (.tmp 18) rfl Z L 29 rfl rfl rfl HLs.out HZL.out HL1.out ?_)
      | (go_at_call 17
         (with_reducible refine (HDA.out _ (hB.kept hq2)).mono ?_)
         rintro _ w2 ⟨rfl, q2⟩
         have hq3 := bcall (bcall hq2 q2) (balloc w2 (.cells Ma 40))
         have q3 := q2.trans ((balloc w2 (.cells Ma 40)).mono q2.size)
         have HG3 := Lib.hid ((q3.block _ (size_lt_alloc _ _)).trans HG2.out)
         have HA3 := Lib.hid (heap_alloc_new w2 (.cells Ma 40))
         have hbd3 := hbd2.kept q3)
      | (refine wpList_store_pk w2 rfl 40 (.tmp 5) (.tmp 23) rfl #[.int .u8 0, .int .i64 0, .int .u8 0, .int .u16 0] Ma 40 rfl rfl rfl HM4.out HMz.out HM1.out ?_)
      | (refine wpList_load_row_g rfl 29 (.tmp 3) rfl w1.heap.size rfl 29 L (0, 0) _ HG3.out Try.underlying29 rfl HLs.out ?_)
      | (refine wpList_build_g rfl 29 _ rfl Z HZb.out rfl ?_)
      | (go_at_call 19
         (with_reducible refine (HSL.out _).mono ?_)
         rintro _ w3 ⟨rfl, q4⟩
         have hq4 := bcall hq3 q4
         have HA4 := Lib.hid ((q4.block _ (size_lt_alloc _ _)).trans HA3.out))
      | (refine wpList_load_row_g rfl 40 (.tmp 5) rfl w2.heap.size rfl 40 Ma (0, 0) _ HA4.out Try.underlying40 rfl HM4.out ?_; rw [HMa.out])
      | (go_at_call 8
         (with_reducible refine (awake_any _).mono ?_)
         rintro _ w6 ⟨rfl, q6⟩
         have hq6 := bcall hq4 q6))
    all_goals
      go_ret
      exact ⟨rfl, hq6⟩
end Go.Proofs.Ytjpglpdfopeegaa.Mine
