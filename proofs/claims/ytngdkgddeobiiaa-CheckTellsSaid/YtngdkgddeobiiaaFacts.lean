/- The tables of this translation that the walks use. -/
import Derived.Test.YtngdkgddeobiiaaProg
import Derived.Test.YtngdkgddeobiiaaTMore
import Derived.WalkLawsBesides
namespace Go.Proofs.Ytngdkgddeobiiaa
open Go Go.TL
set_option maxRecDepth 100000
theorem ta139 : TyAgg Try.prog 139 7 := ⟨Try.isAgg139, Try.sizeOf139⟩
theorem ta154 : TyAgg Try.prog 154 8 := ⟨Try.isAgg154, Try.sizeOf154⟩
theorem ta25 : TyAgg Try.prog 25 8 := ⟨Try.isAgg25, Try.sizeOf25⟩
theorem ta35 : TyAgg Try.prog 35 7 := ⟨Try.isAgg35, Try.sizeOf35⟩
theorem ta65 : TyAgg Try.prog 65 2 := ⟨Try.isAgg65, Try.sizeOf65⟩
theorem ta74 : TyAgg Try.prog 74 4 := ⟨Try.isAgg74, Try.sizeOf74⟩
theorem ta76 : TyAgg Try.prog 76 5 := ⟨Try.isAgg76, Try.sizeOf76⟩
theorem ta78 : TyAgg Try.prog 78 13 := ⟨Try.isAgg78, Try.sizeOf78⟩
theorem ta83 : TyAgg Try.prog 83 7 := ⟨Try.isAgg83, Try.sizeOf83⟩
theorem tc22 : TyCell Try.prog 22 := ⟨Try.isAgg22, Try.sizeOf22⟩
theorem tc23 : TyCell Try.prog 23 := ⟨Try.isAgg23, Try.sizeOf23⟩
theorem tc3 : TyCell Try.prog 3 := ⟨Try.isAgg3, Try.sizeOf3⟩
theorem tc32 : TyCell Try.prog 32 := ⟨Try.isAgg32, Try.sizeOf32⟩
theorem tc4 : TyCell Try.prog 4 := ⟨Try.isAgg4, Try.sizeOf4⟩
theorem tc71 : TyCell Try.prog 71 := ⟨Try.isAgg71, Try.sizeOf71⟩
theorem tc72 : TyCell Try.prog 72 := ⟨Try.isAgg72, Try.sizeOf72⟩
theorem tc81 : TyCell Try.prog 81 := ⟨Try.isAgg81, Try.sizeOf81⟩
theorem fo139_0 : FieldOK Try.prog 139 0 0 := fun a w => by simp [Instr.fieldAt, Instr.sureAddr, fieldPlace]
theorem fo139_1 : FieldOK Try.prog 139 1 1 := fun a w => by simp [Instr.fieldAt, Instr.sureAddr, fieldPlace]
theorem fo139_2 : FieldOK Try.prog 139 2 2 := fun a w => by simp [Instr.fieldAt, Instr.sureAddr, fieldPlace]
theorem fo139_3 : FieldOK Try.prog 139 3 3 := fun a w => by simp [Instr.fieldAt, Instr.sureAddr, fieldPlace]
theorem fo139_4 : FieldOK Try.prog 139 4 4 := fun a w => by simp [Instr.fieldAt, Instr.sureAddr, fieldPlace]
theorem fo139_5 : FieldOK Try.prog 139 5 5 := fun a w => by simp [Instr.fieldAt, Instr.sureAddr, fieldPlace]
theorem fo139_6 : FieldOK Try.prog 139 6 6 := fun a w => by simp [Instr.fieldAt, Instr.sureAddr, fieldPlace]
theorem fo154_0 : FieldOK Try.prog 154 0 0 := fun a w => by simp [Instr.fieldAt, Instr.sureAddr, fieldPlace]
theorem fo154_1 : FieldOK Try.prog 154 1 1 := fun a w => by simp [Instr.fieldAt, Instr.sureAddr, fieldPlace]
theorem fo154_2 : FieldOK Try.prog 154 2 2 := fun a w => by simp [Instr.fieldAt, Instr.sureAddr, fieldPlace]
theorem fo154_3 : FieldOK Try.prog 154 3 3 := fun a w => by simp [Instr.fieldAt, Instr.sureAddr, fieldPlace]
theorem fo154_4 : FieldOK Try.prog 154 4 4 := fun a w => by simp [Instr.fieldAt, Instr.sureAddr, fieldPlace]
theorem fo154_5 : FieldOK Try.prog 154 5 5 := fun a w => by simp [Instr.fieldAt, Instr.sureAddr, fieldPlace]
theorem fo154_6 : FieldOK Try.prog 154 6 6 := fun a w => by simp [Instr.fieldAt, Instr.sureAddr, fieldPlace]
theorem fo154_7 : FieldOK Try.prog 154 7 7 := fun a w => by simp [Instr.fieldAt, Instr.sureAddr, fieldPlace]
theorem fo25_0 : FieldOK Try.prog 25 0 0 := fun a w => by simp [Instr.fieldAt, Instr.sureAddr, fieldPlace]
theorem fo25_1 : FieldOK Try.prog 25 1 1 := fun a w => by simp [Instr.fieldAt, Instr.sureAddr, fieldPlace]
theorem fo25_2 : FieldOK Try.prog 25 2 2 := fun a w => by simp [Instr.fieldAt, Instr.sureAddr, fieldPlace]
theorem fo25_3 : FieldOK Try.prog 25 3 3 := fun a w => by simp [Instr.fieldAt, Instr.sureAddr, fieldPlace]
theorem fo25_4 : FieldOK Try.prog 25 4 4 := fun a w => by simp [Instr.fieldAt, Instr.sureAddr, fieldPlace]
theorem fo25_5 : FieldOK Try.prog 25 5 5 := fun a w => by simp [Instr.fieldAt, Instr.sureAddr, fieldPlace]
theorem fo25_6 : FieldOK Try.prog 25 6 6 := fun a w => by simp [Instr.fieldAt, Instr.sureAddr, fieldPlace]
theorem fo25_7 : FieldOK Try.prog 25 7 7 := fun a w => by simp [Instr.fieldAt, Instr.sureAddr, fieldPlace]
theorem fo35_0 : FieldOK Try.prog 35 0 0 := fun a w => by simp [Instr.fieldAt, Instr.sureAddr, fieldPlace]
theorem fo35_1 : FieldOK Try.prog 35 1 1 := fun a w => by simp [Instr.fieldAt, Instr.sureAddr, fieldPlace]
theorem fo35_2 : FieldOK Try.prog 35 2 2 := fun a w => by simp [Instr.fieldAt, Instr.sureAddr, fieldPlace]
theorem fo35_3 : FieldOK Try.prog 35 3 3 := fun a w => by simp [Instr.fieldAt, Instr.sureAddr, fieldPlace]
theorem fo35_4 : FieldOK Try.prog 35 4 4 := fun a w => by simp [Instr.fieldAt, Instr.sureAddr, fieldPlace]
theorem fo35_5 : FieldOK Try.prog 35 5 5 := fun a w => by simp [Instr.fieldAt, Instr.sureAddr, fieldPlace]
theorem fo35_6 : FieldOK Try.prog 35 6 6 := fun a w => by simp [Instr.fieldAt, Instr.sureAddr, fieldPlace]
theorem fo74_0 : FieldOK Try.prog 74 0 0 := fun a w => by simp [Instr.fieldAt, Instr.sureAddr, fieldPlace]
theorem fo74_1 : FieldOK Try.prog 74 1 1 := fun a w => by simp [Instr.fieldAt, Instr.sureAddr, fieldPlace]
theorem fo74_2 : FieldOK Try.prog 74 2 2 := fun a w => by simp [Instr.fieldAt, Instr.sureAddr, fieldPlace]
theorem fo74_3 : FieldOK Try.prog 74 3 3 := fun a w => by simp [Instr.fieldAt, Instr.sureAddr, fieldPlace]
theorem fo76_1 : FieldOK Try.prog 76 1 1 := fun a w => by simp [Instr.fieldAt, Instr.sureAddr, fieldPlace]
theorem fo78_0 : FieldOK Try.prog 78 0 0 := fun a w => by simp [Instr.fieldAt, Instr.sureAddr, fieldPlace]
theorem fo78_1 : FieldOK Try.prog 78 1 1 := fun a w => by simp [Instr.fieldAt, Instr.sureAddr, fieldPlace]
theorem fo78_2 : FieldOK Try.prog 78 2 5 := fun a w => by simp [Instr.fieldAt, Instr.sureAddr, fieldPlace]
theorem fo78_3 : FieldOK Try.prog 78 3 10 := fun a w => by simp [Instr.fieldAt, Instr.sureAddr, fieldPlace]
theorem fo78_4 : FieldOK Try.prog 78 4 11 := fun a w => by simp [Instr.fieldAt, Instr.sureAddr, fieldPlace]
theorem fo78_5 : FieldOK Try.prog 78 5 12 := fun a w => by simp [Instr.fieldAt, Instr.sureAddr, fieldPlace]
theorem fo83_0 : FieldOK Try.prog 83 0 0 := fun a w => by simp [Instr.fieldAt, Instr.sureAddr, fieldPlace]
theorem fo83_1 : FieldOK Try.prog 83 1 1 := fun a w => by simp [Instr.fieldAt, Instr.sureAddr, fieldPlace]
theorem fo83_2 : FieldOK Try.prog 83 2 2 := fun a w => by simp [Instr.fieldAt, Instr.sureAddr, fieldPlace]
theorem fo83_3 : FieldOK Try.prog 83 3 3 := fun a w => by simp [Instr.fieldAt, Instr.sureAddr, fieldPlace]
theorem fo83_4 : FieldOK Try.prog 83 4 4 := fun a w => by simp [Instr.fieldAt, Instr.sureAddr, fieldPlace]
theorem fo83_5 : FieldOK Try.prog 83 5 5 := fun a w => by simp [Instr.fieldAt, Instr.sureAddr, fieldPlace]
theorem fo83_6 : FieldOK Try.prog 83 6 6 := fun a w => by simp [Instr.fieldAt, Instr.sureAddr, fieldPlace]
theorem ap22 : AppP Try.prog 22 83 7 56 := appP_of Try.underlying22 (by rfl) ⟨rfl, rfl, rfl, rfl⟩ (by decide)
theorem ap23 : AppP Try.prog 23 78 13 136 := appP_of Try.underlying23 (by rfl) ⟨rfl, rfl, rfl, rfl⟩ (by decide)
theorem bp139 : BuildP Try.prog 139 [.bool false, .int .i64 0, .bool false, .bool false, .bool false, .bool false, .bool false] [(0, 1), (1, 1), (2, 1), (3, 1), (4, 1), (5, 1), (6, 1)] := buildP_struct Try.zeroValue139 Try.underlying139 (fun w => by simp)
theorem bp154 : BuildP Try.prog 154 [.int .i64 0, .int .i64 0, .bool false, .bool false, .int .i64 0, .int .i64 0, .bool false, .bool false] [(0, 1), (1, 1), (2, 1), (3, 1), (4, 1), (5, 1), (6, 1), (7, 1)] := buildP_struct Try.zeroValue154 Try.underlying154 (fun w => by simp)
theorem bp35 : BuildP Try.prog 35 [.int .i64 0, .int .i64 0, .int .i64 0, .int .i64 0, .slice none 0 0, .slice none 0 0, .slice none 0 0] [(0, 1), (1, 1), (2, 1), (3, 1), (4, 1), (5, 1), (6, 1)] := buildP_struct Try.zeroValue35 Try.underlying35 (fun w => by simp)
theorem bp65 : BuildP Try.prog 65 [.int .i64 0, .int .i64 0] [(0, 1), (1, 1)] := buildP_array Try.zeroValue65 Try.underlying65 Try.sizeOf3 rfl
theorem bp66 : BuildP Try.prog 66 [.int .i64 0, .int .i64 0, .int .i64 0, .int .i64 0, .int .i64 0, .int .i64 0, .int .i64 0, .int .i64 0] [(0, 2), (2, 2), (4, 2), (6, 2)] := buildP_array Try.zeroValue66 Try.underlying66 Try.sizeOf65 rfl
theorem bp70 : BuildP Try.prog 70 [.int .i64 0, .int .i64 0, .int .i64 0, .int .i64 0, .int .i64 0, .int .i64 0, .int .i64 0, .int .i64 0, .int .i64 0, .int .i64 0, .int .i64 0, .int .i64 0] [(0, 2), (2, 2), (4, 2), (6, 2), (8, 2), (10, 2)] := buildP_array Try.zeroValue70 Try.underlying70 Try.sizeOf65 rfl
theorem bp74 : BuildP Try.prog 74 [.int .u8 0, .int .i64 0, .int .i64 0, .int .i64 0] [(0, 1), (1, 1), (2, 1), (3, 1)] := buildP_struct Try.zeroValue74 Try.underlying74 (fun w => by simp)
theorem bp76 : BuildP Try.prog 76 [.bool false, .int .u8 0, .int .i64 0, .int .i64 0, .int .i64 0] [(0, 1), (1, 4)] := buildP_struct Try.zeroValue76 Try.underlying76 (fun w => by simp)
theorem bp83 : BuildP Try.prog 83 [.int .u8 0, .int .i64 0, .int .i64 0, .int .i64 0, .int .i64 0, .int .i64 0, .int .i64 0] [(0, 1), (1, 1), (2, 1), (3, 1), (4, 1), (5, 1), (6, 1)] := buildP_struct Try.zeroValue83 Try.underlying83 (fun w => by simp)
theorem bs22 {v : Value} {vs : List Value} (hv : v.cells = vs.toArray) (hl : vs.length = 7) : BSliceP Try.prog 22 83 1 [(0, v)] vs := bsl_one (size := 7) Try.underlying22 (by rfl) ⟨rfl, rfl, rfl⟩ (by decide) hv hl
theorem bs23 {v : Value} {vs : List Value} (hv : v.cells = vs.toArray) (hl : vs.length = 13) : BSliceP Try.prog 23 78 1 [(0, v)] vs := bsl_one (size := 13) Try.underlying23 (by rfl) ⟨rfl, rfl, rfl⟩ (by decide) hv hl
theorem ia65_0 : FieldIdx Try.prog 65 0 0 := fun a w => by simp [Instr.indexAt, Instr.sureAddr, asIntOf]
theorem ia65_1 : FieldIdx Try.prog 65 1 1 := fun a w => by simp [Instr.indexAt, Instr.sureAddr, asIntOf]
theorem ix22 : IdxOK Try.prog 22 7 := idxOK Try.underlying22 Try.sizeOf83
theorem ix23 : IdxOK Try.prog 23 13 := idxOK Try.underlying23 Try.sizeOf78
theorem mk32 : MkP Try.prog 32 1 := mkP_of Try.underlying32 (by rfl) ⟨rfl, rfl⟩
theorem en10 : Enters Try.prog 10 := Try.call10
theorem en100 : Enters Try.prog 100 := Try.call100
theorem en101 : Enters Try.prog 101 := Try.call101
theorem en106 : Enters Try.prog 106 := Try.call106
theorem en11 : Enters Try.prog 11 := Try.call11
theorem en113 : Enters Try.prog 113 := Try.call113
theorem en114 : Enters Try.prog 114 := Try.call114
theorem en115 : Enters Try.prog 115 := Try.call115
theorem en116 : Enters Try.prog 116 := Try.call116
theorem en117 : Enters Try.prog 117 := Try.call117
theorem en12 : Enters Try.prog 12 := Try.call12
theorem en126 : Enters Try.prog 126 := Try.call126
theorem en13 : Enters Try.prog 13 := Try.call13
theorem en131 : Enters Try.prog 131 := Try.call131
theorem en132 : Enters Try.prog 132 := Try.call132
theorem en14 : Enters Try.prog 14 := Try.call14
theorem en19 : Enters Try.prog 19 := Try.call19
theorem en26 : Enters Try.prog 26 := Try.call26
theorem en27 : Enters Try.prog 27 := Try.call27
theorem en28 : Enters Try.prog 28 := Try.call28
theorem en29 : Enters Try.prog 29 := Try.call29
theorem en30 : Enters Try.prog 30 := Try.call30
theorem en31 : Enters Try.prog 31 := Try.call31
theorem en32 : Enters Try.prog 32 := Try.call32
theorem en33 : Enters Try.prog 33 := Try.call33
theorem en34 : Enters Try.prog 34 := Try.call34
theorem en39 : Enters Try.prog 39 := Try.call39
theorem en40 : Enters Try.prog 40 := Try.call40
theorem en52 : Enters Try.prog 52 := Try.call52
theorem en53 : Enters Try.prog 53 := Try.call53
theorem en54 : Enters Try.prog 54 := Try.call54
theorem en55 : Enters Try.prog 55 := Try.call55
theorem en56 : Enters Try.prog 56 := Try.call56
theorem en66 : Enters Try.prog 66 := Try.call66
theorem en67 : Enters Try.prog 67 := Try.call67
theorem en68 : Enters Try.prog 68 := Try.call68
theorem en7 : Enters Try.prog 7 := Try.call7
theorem en77 : Enters Try.prog 77 := Try.call77
theorem en79 : Enters Try.prog 79 := Try.call79
theorem en8 : Enters Try.prog 8 := Try.call8
theorem en86 : Enters Try.prog 86 := Try.call86
theorem en87 : Enters Try.prog 87 := Try.call87
theorem en88 : Enters Try.prog 88 := Try.call88
theorem en89 : Enters Try.prog 89 := Try.call89
theorem en9 : Enters Try.prog 9 := Try.call9
theorem en90 : Enters Try.prog 90 := Try.call90
theorem en91 : Enters Try.prog 91 := Try.call91
theorem en92 : Enters Try.prog 92 := Try.call92
theorem en93 : Enters Try.prog 93 := Try.call93
theorem en94 : Enters Try.prog 94 := Try.call94
theorem sq74 (d : Nat) (xs ys : Array Value) (w : World) : (Op.equalIn (d + 1) 74 (.agg xs) (.agg ys)).run Try.prog w = (Op.eqFields d xs ys (Try.prog.fieldsOf 74).toList).run Try.prog w := run_equalIn_struct w d 74 _ _ (by rfl) Try.stoodInHeld74
theorem sq76 (d : Nat) (xs ys : Array Value) (w : World) : (Op.equalIn (d + 1) 76 (.agg xs) (.agg ys)).run Try.prog w = (Op.eqFields d xs ys (Try.prog.fieldsOf 76).toList).run Try.prog w := run_equalIn_struct w d 76 _ _ (by rfl) Try.stoodInHeld76
theorem sq83 (d : Nat) (xs ys : Array Value) (w : World) : (Op.equalIn (d + 1) 83 (.agg xs) (.agg ys)).run Try.prog w = (Op.eqFields d xs ys (Try.prog.fieldsOf 83).toList).run Try.prog w := run_equalIn_struct w d 83 _ _ (by rfl) Try.stoodInHeld83
theorem se74 (a0 : Int) (a1 : Int) (a2 : Int) (a3 : Int) (b0 : Int) (b1 : Int) (b2 : Int) (b3 : Int) : EqOK Try.prog 74 [.int .u8 a0, .int .i64 a1, .int .i64 a2, .int .i64 a3] [.int .u8 b0, .int .i64 b1, .int .i64 b2, .int .i64 b3] (decide (a0 = b0) && (decide (a1 = b1) && (decide (a2 = b2) && decide (a3 = b3)))) := fun w => by
  rw [Op.equal, Op.maxDepth, sq74]
  simp [part, go_sem, Op.eqFields]
  repeat' split
  all_goals simp [*]
theorem se76 (a0 : Bool) (a1 : Int) (a2 : Int) (a3 : Int) (a4 : Int) (b0 : Bool) (b1 : Int) (b2 : Int) (b3 : Int) (b4 : Int) : EqOK Try.prog 76 [.bool a0, .int .u8 a1, .int .i64 a2, .int .i64 a3, .int .i64 a4] [.bool b0, .int .u8 b1, .int .i64 b2, .int .i64 b3, .int .i64 b4] (decide (a0 = b0) && (decide (a1 = b1) && (decide (a2 = b2) && (decide (a3 = b3) && decide (a4 = b4))))) := fun w => by
  rw [Op.equal, Op.maxDepth, sq76]
  simp [part, go_sem, Op.eqFields, sq74]
  repeat' split
  all_goals simp [*]
theorem se83 (a0 : Int) (a1 : Int) (a2 : Int) (a3 : Int) (a4 : Int) (a5 : Int) (a6 : Int) (b0 : Int) (b1 : Int) (b2 : Int) (b3 : Int) (b4 : Int) (b5 : Int) (b6 : Int) : EqOK Try.prog 83 [.int .u8 a0, .int .i64 a1, .int .i64 a2, .int .i64 a3, .int .i64 a4, .int .i64 a5, .int .i64 a6] [.int .u8 b0, .int .i64 b1, .int .i64 b2, .int .i64 b3, .int .i64 b4, .int .i64 b5, .int .i64 b6] (decide (a0 = b0) && (decide (a1 = b1) && (decide (a2 = b2) && (decide (a3 = b3) && (decide (a4 = b4) && (decide (a5 = b5) && decide (a6 = b6))))))) := fun w => by
  rw [Op.equal, Op.maxDepth, sq83]
  simp [part, go_sem, Op.eqFields]
  repeat' split
  all_goals simp [*]
end Go.Proofs.Ytngdkgddeobiiaa
