/-
  StealNone: for every number of deques and every size, and every flag: the law answers true, on every schedule, without a data race. Conditions: the row's own (calm: the clock alone may have gone on).
-/
import Derived.Test.YtcpiafgkmakdiaaSxSNfin
import Derived.Test.YtcpiafgkmakdiaaSxSNgt
import Derived.Test.YtcpiafgkmakdiaaSxSNgf
import Derived.Test.YtcpiafgkmakdiaaSxSNot
import Derived.Test.YtcpiafgkmakdiaaSxSNof
import Derived.Carry
import Derived.Conc.HoldsTime
import Derived.Conc.LeavingOf
import Derived.ProofKit
import Derived.Lib.SmallJoins
set_option maxRecDepth 100000
set_option linter.unusedVariables false
namespace Go.Proofs.Ytcpiafgkmakdiaa
open Go.ChangeShapes Go.WideShapes Go.ChangeAt Go.RowKit Go.Conc Go.Proofs.Ytcpiafgkmakdiaa.SX

theorem grows_t : ∀ j, j < 70 → Grow true j := by
  intro j hj
  have : j = 0 ∨ j = 1 ∨ j = 2 ∨ j = 3 ∨ j = 4 ∨ j = 5 ∨ j = 6 ∨ j = 7 ∨ j = 8 ∨ j = 9 ∨ j = 10 ∨ j = 11 ∨ j = 12 ∨ j = 13 ∨ j = 14 ∨ j = 15 ∨ j = 16 ∨ j = 17 ∨ j = 18 ∨ j = 19 ∨ j = 20 ∨ j = 21 ∨ j = 22 ∨ j = 23 ∨ j = 24 ∨ j = 25 ∨ j = 26 ∨ j = 27 ∨ j = 28 ∨ j = 29 ∨ j = 30 ∨ j = 31 ∨ j = 32 ∨ j = 33 ∨ j = 34 ∨ j = 35 ∨ j = 36 ∨ j = 37 ∨ j = 38 ∨ j = 39 ∨ j = 40 ∨ j = 41 ∨ j = 42 ∨ j = 43 ∨ j = 44 ∨ j = 45 ∨ j = 46 ∨ j = 47 ∨ j = 48 ∨ j = 49 ∨ j = 50 ∨ j = 51 ∨ j = 52 ∨ j = 53 ∨ j = 54 ∨ j = 55 ∨ j = 56 ∨ j = 57 ∨ j = 58 ∨ j = 59 ∨ j = 60 ∨ j = 61 ∨ j = 62 ∨ j = 63 ∨ j = 64 ∨ j = 65 ∨ j = 66 ∨ j = 67 ∨ j = 68 ∨ j = 69 := by omega
  rcases this with rfl | rfl | rfl | rfl | rfl | rfl | rfl | rfl | rfl | rfl | rfl | rfl | rfl | rfl | rfl | rfl | rfl | rfl | rfl | rfl | rfl | rfl | rfl | rfl | rfl | rfl | rfl | rfl | rfl | rfl | rfl | rfl | rfl | rfl | rfl | rfl | rfl | rfl | rfl | rfl | rfl | rfl | rfl | rfl | rfl | rfl | rfl | rfl | rfl | rfl | rfl | rfl | rfl | rfl | rfl | rfl | rfl | rfl | rfl | rfl | rfl | rfl | rfl | rfl | rfl | rfl | rfl | rfl | rfl | rfl
  · exact grow_true_0
  · exact grow_true_1
  · exact grow_true_2
  · exact grow_true_3
  · exact grow_true_4
  · exact grow_true_5
  · exact grow_true_6
  · exact grow_true_7
  · exact grow_true_8
  · exact grow_true_9
  · exact grow_true_10
  · exact grow_true_11
  · exact grow_true_12
  · exact grow_true_13
  · exact grow_true_14
  · exact grow_true_15
  · exact grow_true_16
  · exact grow_true_17
  · exact grow_true_18
  · exact grow_true_19
  · exact grow_true_20
  · exact grow_true_21
  · exact grow_true_22
  · exact grow_true_23
  · exact grow_true_24
  · exact grow_true_25
  · exact grow_true_26
  · exact grow_true_27
  · exact grow_true_28
  · exact grow_true_29
  · exact grow_true_30
  · exact grow_true_31
  · exact grow_true_32
  · exact grow_true_33
  · exact grow_true_34
  · exact grow_true_35
  · exact grow_true_36
  · exact grow_true_37
  · exact grow_true_38
  · exact grow_true_39
  · exact grow_true_40
  · exact grow_true_41
  · exact grow_true_42
  · exact grow_true_43
  · exact grow_true_44
  · exact grow_true_45
  · exact grow_true_46
  · exact grow_true_47
  · exact grow_true_48
  · exact grow_true_49
  · exact grow_true_50
  · exact grow_true_51
  · exact grow_true_52
  · exact grow_true_53
  · exact grow_true_54
  · exact grow_true_55
  · exact grow_true_56
  · exact grow_true_57
  · exact grow_true_58
  · exact grow_true_59
  · exact grow_true_60
  · exact grow_true_61
  · exact grow_true_62
  · exact grow_true_63
  · exact grow_true_64
  · exact grow_true_65
  · exact grow_true_66
  · exact grow_true_67
  · exact grow_true_68
  · exact grow_true_69
theorem leaves_t : ∀ j, j < 70 → Leave true j := by
  intro j hj
  have : j = 0 ∨ j = 1 ∨ j = 2 ∨ j = 3 ∨ j = 4 ∨ j = 5 ∨ j = 6 ∨ j = 7 ∨ j = 8 ∨ j = 9 ∨ j = 10 ∨ j = 11 ∨ j = 12 ∨ j = 13 ∨ j = 14 ∨ j = 15 ∨ j = 16 ∨ j = 17 ∨ j = 18 ∨ j = 19 ∨ j = 20 ∨ j = 21 ∨ j = 22 ∨ j = 23 ∨ j = 24 ∨ j = 25 ∨ j = 26 ∨ j = 27 ∨ j = 28 ∨ j = 29 ∨ j = 30 ∨ j = 31 ∨ j = 32 ∨ j = 33 ∨ j = 34 ∨ j = 35 ∨ j = 36 ∨ j = 37 ∨ j = 38 ∨ j = 39 ∨ j = 40 ∨ j = 41 ∨ j = 42 ∨ j = 43 ∨ j = 44 ∨ j = 45 ∨ j = 46 ∨ j = 47 ∨ j = 48 ∨ j = 49 ∨ j = 50 ∨ j = 51 ∨ j = 52 ∨ j = 53 ∨ j = 54 ∨ j = 55 ∨ j = 56 ∨ j = 57 ∨ j = 58 ∨ j = 59 ∨ j = 60 ∨ j = 61 ∨ j = 62 ∨ j = 63 ∨ j = 64 ∨ j = 65 ∨ j = 66 ∨ j = 67 ∨ j = 68 ∨ j = 69 := by omega
  rcases this with rfl | rfl | rfl | rfl | rfl | rfl | rfl | rfl | rfl | rfl | rfl | rfl | rfl | rfl | rfl | rfl | rfl | rfl | rfl | rfl | rfl | rfl | rfl | rfl | rfl | rfl | rfl | rfl | rfl | rfl | rfl | rfl | rfl | rfl | rfl | rfl | rfl | rfl | rfl | rfl | rfl | rfl | rfl | rfl | rfl | rfl | rfl | rfl | rfl | rfl | rfl | rfl | rfl | rfl | rfl | rfl | rfl | rfl | rfl | rfl | rfl | rfl | rfl | rfl | rfl | rfl | rfl | rfl | rfl | rfl
  · exact leave_true_0
  · exact leave_true_1
  · exact leave_true_2
  · exact leave_true_3
  · exact leave_true_4
  · exact leave_true_5
  · exact leave_true_6
  · exact leave_true_7
  · exact leave_true_8
  · exact leave_true_9
  · exact leave_true_10
  · exact leave_true_11
  · exact leave_true_12
  · exact leave_true_13
  · exact leave_true_14
  · exact leave_true_15
  · exact leave_true_16
  · exact leave_true_17
  · exact leave_true_18
  · exact leave_true_19
  · exact leave_true_20
  · exact leave_true_21
  · exact leave_true_22
  · exact leave_true_23
  · exact leave_true_24
  · exact leave_true_25
  · exact leave_true_26
  · exact leave_true_27
  · exact leave_true_28
  · exact leave_true_29
  · exact leave_true_30
  · exact leave_true_31
  · exact leave_true_32
  · exact leave_true_33
  · exact leave_true_34
  · exact leave_true_35
  · exact leave_true_36
  · exact leave_true_37
  · exact leave_true_38
  · exact leave_true_39
  · exact leave_true_40
  · exact leave_true_41
  · exact leave_true_42
  · exact leave_true_43
  · exact leave_true_44
  · exact leave_true_45
  · exact leave_true_46
  · exact leave_true_47
  · exact leave_true_48
  · exact leave_true_49
  · exact leave_true_50
  · exact leave_true_51
  · exact leave_true_52
  · exact leave_true_53
  · exact leave_true_54
  · exact leave_true_55
  · exact leave_true_56
  · exact leave_true_57
  · exact leave_true_58
  · exact leave_true_59
  · exact leave_true_60
  · exact leave_true_61
  · exact leave_true_62
  · exact leave_true_63
  · exact leave_true_64
  · exact leave_true_65
  · exact leave_true_66
  · exact leave_true_67
  · exact leave_true_68
  · exact leave_true_69
theorem olds_tt : ∀ j, j < 70 → Old true true j := by
  intro j hj
  have : j = 0 ∨ j = 1 ∨ j = 2 ∨ j = 3 ∨ j = 4 ∨ j = 5 ∨ j = 6 ∨ j = 7 ∨ j = 8 ∨ j = 9 ∨ j = 10 ∨ j = 11 ∨ j = 12 ∨ j = 13 ∨ j = 14 ∨ j = 15 ∨ j = 16 ∨ j = 17 ∨ j = 18 ∨ j = 19 ∨ j = 20 ∨ j = 21 ∨ j = 22 ∨ j = 23 ∨ j = 24 ∨ j = 25 ∨ j = 26 ∨ j = 27 ∨ j = 28 ∨ j = 29 ∨ j = 30 ∨ j = 31 ∨ j = 32 ∨ j = 33 ∨ j = 34 ∨ j = 35 ∨ j = 36 ∨ j = 37 ∨ j = 38 ∨ j = 39 ∨ j = 40 ∨ j = 41 ∨ j = 42 ∨ j = 43 ∨ j = 44 ∨ j = 45 ∨ j = 46 ∨ j = 47 ∨ j = 48 ∨ j = 49 ∨ j = 50 ∨ j = 51 ∨ j = 52 ∨ j = 53 ∨ j = 54 ∨ j = 55 ∨ j = 56 ∨ j = 57 ∨ j = 58 ∨ j = 59 ∨ j = 60 ∨ j = 61 ∨ j = 62 ∨ j = 63 ∨ j = 64 ∨ j = 65 ∨ j = 66 ∨ j = 67 ∨ j = 68 ∨ j = 69 := by omega
  rcases this with rfl | rfl | rfl | rfl | rfl | rfl | rfl | rfl | rfl | rfl | rfl | rfl | rfl | rfl | rfl | rfl | rfl | rfl | rfl | rfl | rfl | rfl | rfl | rfl | rfl | rfl | rfl | rfl | rfl | rfl | rfl | rfl | rfl | rfl | rfl | rfl | rfl | rfl | rfl | rfl | rfl | rfl | rfl | rfl | rfl | rfl | rfl | rfl | rfl | rfl | rfl | rfl | rfl | rfl | rfl | rfl | rfl | rfl | rfl | rfl | rfl | rfl | rfl | rfl | rfl | rfl | rfl | rfl | rfl | rfl
  · exact old_true_true_0
  · exact old_true_true_1
  · exact old_true_true_2
  · exact old_true_true_3
  · exact old_true_true_4
  · exact old_true_true_5
  · exact old_true_true_6
  · exact old_true_true_7
  · exact old_true_true_8
  · exact old_true_true_9
  · exact old_true_true_10
  · exact old_true_true_11
  · exact old_true_true_12
  · exact old_true_true_13
  · exact old_true_true_14
  · exact old_true_true_15
  · exact old_true_true_16
  · exact old_true_true_17
  · exact old_true_true_18
  · exact old_true_true_19
  · exact old_true_true_20
  · exact old_true_true_21
  · exact old_true_true_22
  · exact old_true_true_23
  · exact old_true_true_24
  · exact old_true_true_25
  · exact old_true_true_26
  · exact old_true_true_27
  · exact old_true_true_28
  · exact old_true_true_29
  · exact old_true_true_30
  · exact old_true_true_31
  · exact old_true_true_32
  · exact old_true_true_33
  · exact old_true_true_34
  · exact old_true_true_35
  · exact old_true_true_36
  · exact old_true_true_37
  · exact old_true_true_38
  · exact old_true_true_39
  · exact old_true_true_40
  · exact old_true_true_41
  · exact old_true_true_42
  · exact old_true_true_43
  · exact old_true_true_44
  · exact old_true_true_45
  · exact old_true_true_46
  · exact old_true_true_47
  · exact old_true_true_48
  · exact old_true_true_49
  · exact old_true_true_50
  · exact old_true_true_51
  · exact old_true_true_52
  · exact old_true_true_53
  · exact old_true_true_54
  · exact old_true_true_55
  · exact old_true_true_56
  · exact old_true_true_57
  · exact old_true_true_58
  · exact old_true_true_59
  · exact old_true_true_60
  · exact old_true_true_61
  · exact old_true_true_62
  · exact old_true_true_63
  · exact old_true_true_64
  · exact old_true_true_65
  · exact old_true_true_66
  · exact old_true_true_67
  · exact old_true_true_68
  · exact old_true_true_69
theorem olds_tf : ∀ j, j < 70 → Old true false j := by
  intro j hj
  have : j = 0 ∨ j = 1 ∨ j = 2 ∨ j = 3 ∨ j = 4 ∨ j = 5 ∨ j = 6 ∨ j = 7 ∨ j = 8 ∨ j = 9 ∨ j = 10 ∨ j = 11 ∨ j = 12 ∨ j = 13 ∨ j = 14 ∨ j = 15 ∨ j = 16 ∨ j = 17 ∨ j = 18 ∨ j = 19 ∨ j = 20 ∨ j = 21 ∨ j = 22 ∨ j = 23 ∨ j = 24 ∨ j = 25 ∨ j = 26 ∨ j = 27 ∨ j = 28 ∨ j = 29 ∨ j = 30 ∨ j = 31 ∨ j = 32 ∨ j = 33 ∨ j = 34 ∨ j = 35 ∨ j = 36 ∨ j = 37 ∨ j = 38 ∨ j = 39 ∨ j = 40 ∨ j = 41 ∨ j = 42 ∨ j = 43 ∨ j = 44 ∨ j = 45 ∨ j = 46 ∨ j = 47 ∨ j = 48 ∨ j = 49 ∨ j = 50 ∨ j = 51 ∨ j = 52 ∨ j = 53 ∨ j = 54 ∨ j = 55 ∨ j = 56 ∨ j = 57 ∨ j = 58 ∨ j = 59 ∨ j = 60 ∨ j = 61 ∨ j = 62 ∨ j = 63 ∨ j = 64 ∨ j = 65 ∨ j = 66 ∨ j = 67 ∨ j = 68 ∨ j = 69 := by omega
  rcases this with rfl | rfl | rfl | rfl | rfl | rfl | rfl | rfl | rfl | rfl | rfl | rfl | rfl | rfl | rfl | rfl | rfl | rfl | rfl | rfl | rfl | rfl | rfl | rfl | rfl | rfl | rfl | rfl | rfl | rfl | rfl | rfl | rfl | rfl | rfl | rfl | rfl | rfl | rfl | rfl | rfl | rfl | rfl | rfl | rfl | rfl | rfl | rfl | rfl | rfl | rfl | rfl | rfl | rfl | rfl | rfl | rfl | rfl | rfl | rfl | rfl | rfl | rfl | rfl | rfl | rfl | rfl | rfl | rfl | rfl
  · exact old_true_false_0
  · exact old_true_false_1
  · exact old_true_false_2
  · exact old_true_false_3
  · exact old_true_false_4
  · exact old_true_false_5
  · exact old_true_false_6
  · exact old_true_false_7
  · exact old_true_false_8
  · exact old_true_false_9
  · exact old_true_false_10
  · exact old_true_false_11
  · exact old_true_false_12
  · exact old_true_false_13
  · exact old_true_false_14
  · exact old_true_false_15
  · exact old_true_false_16
  · exact old_true_false_17
  · exact old_true_false_18
  · exact old_true_false_19
  · exact old_true_false_20
  · exact old_true_false_21
  · exact old_true_false_22
  · exact old_true_false_23
  · exact old_true_false_24
  · exact old_true_false_25
  · exact old_true_false_26
  · exact old_true_false_27
  · exact old_true_false_28
  · exact old_true_false_29
  · exact old_true_false_30
  · exact old_true_false_31
  · exact old_true_false_32
  · exact old_true_false_33
  · exact old_true_false_34
  · exact old_true_false_35
  · exact old_true_false_36
  · exact old_true_false_37
  · exact old_true_false_38
  · exact old_true_false_39
  · exact old_true_false_40
  · exact old_true_false_41
  · exact old_true_false_42
  · exact old_true_false_43
  · exact old_true_false_44
  · exact old_true_false_45
  · exact old_true_false_46
  · exact old_true_false_47
  · exact old_true_false_48
  · exact old_true_false_49
  · exact old_true_false_50
  · exact old_true_false_51
  · exact old_true_false_52
  · exact old_true_false_53
  · exact old_true_false_54
  · exact old_true_false_55
  · exact old_true_false_56
  · exact old_true_false_57
  · exact old_true_false_58
  · exact old_true_false_59
  · exact old_true_false_60
  · exact old_true_false_61
  · exact old_true_false_62
  · exact old_true_false_63
  · exact old_true_false_64
  · exact old_true_false_65
  · exact old_true_false_66
  · exact old_true_false_67
  · exact old_true_false_68
  · exact old_true_false_69
theorem grows_f : ∀ j, j < 70 → Grow false j := by
  intro j hj
  have : j = 0 ∨ j = 1 ∨ j = 2 ∨ j = 3 ∨ j = 4 ∨ j = 5 ∨ j = 6 ∨ j = 7 ∨ j = 8 ∨ j = 9 ∨ j = 10 ∨ j = 11 ∨ j = 12 ∨ j = 13 ∨ j = 14 ∨ j = 15 ∨ j = 16 ∨ j = 17 ∨ j = 18 ∨ j = 19 ∨ j = 20 ∨ j = 21 ∨ j = 22 ∨ j = 23 ∨ j = 24 ∨ j = 25 ∨ j = 26 ∨ j = 27 ∨ j = 28 ∨ j = 29 ∨ j = 30 ∨ j = 31 ∨ j = 32 ∨ j = 33 ∨ j = 34 ∨ j = 35 ∨ j = 36 ∨ j = 37 ∨ j = 38 ∨ j = 39 ∨ j = 40 ∨ j = 41 ∨ j = 42 ∨ j = 43 ∨ j = 44 ∨ j = 45 ∨ j = 46 ∨ j = 47 ∨ j = 48 ∨ j = 49 ∨ j = 50 ∨ j = 51 ∨ j = 52 ∨ j = 53 ∨ j = 54 ∨ j = 55 ∨ j = 56 ∨ j = 57 ∨ j = 58 ∨ j = 59 ∨ j = 60 ∨ j = 61 ∨ j = 62 ∨ j = 63 ∨ j = 64 ∨ j = 65 ∨ j = 66 ∨ j = 67 ∨ j = 68 ∨ j = 69 := by omega
  rcases this with rfl | rfl | rfl | rfl | rfl | rfl | rfl | rfl | rfl | rfl | rfl | rfl | rfl | rfl | rfl | rfl | rfl | rfl | rfl | rfl | rfl | rfl | rfl | rfl | rfl | rfl | rfl | rfl | rfl | rfl | rfl | rfl | rfl | rfl | rfl | rfl | rfl | rfl | rfl | rfl | rfl | rfl | rfl | rfl | rfl | rfl | rfl | rfl | rfl | rfl | rfl | rfl | rfl | rfl | rfl | rfl | rfl | rfl | rfl | rfl | rfl | rfl | rfl | rfl | rfl | rfl | rfl | rfl | rfl | rfl
  · exact grow_false_0
  · exact grow_false_1
  · exact grow_false_2
  · exact grow_false_3
  · exact grow_false_4
  · exact grow_false_5
  · exact grow_false_6
  · exact grow_false_7
  · exact grow_false_8
  · exact grow_false_9
  · exact grow_false_10
  · exact grow_false_11
  · exact grow_false_12
  · exact grow_false_13
  · exact grow_false_14
  · exact grow_false_15
  · exact grow_false_16
  · exact grow_false_17
  · exact grow_false_18
  · exact grow_false_19
  · exact grow_false_20
  · exact grow_false_21
  · exact grow_false_22
  · exact grow_false_23
  · exact grow_false_24
  · exact grow_false_25
  · exact grow_false_26
  · exact grow_false_27
  · exact grow_false_28
  · exact grow_false_29
  · exact grow_false_30
  · exact grow_false_31
  · exact grow_false_32
  · exact grow_false_33
  · exact grow_false_34
  · exact grow_false_35
  · exact grow_false_36
  · exact grow_false_37
  · exact grow_false_38
  · exact grow_false_39
  · exact grow_false_40
  · exact grow_false_41
  · exact grow_false_42
  · exact grow_false_43
  · exact grow_false_44
  · exact grow_false_45
  · exact grow_false_46
  · exact grow_false_47
  · exact grow_false_48
  · exact grow_false_49
  · exact grow_false_50
  · exact grow_false_51
  · exact grow_false_52
  · exact grow_false_53
  · exact grow_false_54
  · exact grow_false_55
  · exact grow_false_56
  · exact grow_false_57
  · exact grow_false_58
  · exact grow_false_59
  · exact grow_false_60
  · exact grow_false_61
  · exact grow_false_62
  · exact grow_false_63
  · exact grow_false_64
  · exact grow_false_65
  · exact grow_false_66
  · exact grow_false_67
  · exact grow_false_68
  · exact grow_false_69
theorem leaves_f : ∀ j, j < 70 → Leave false j := by
  intro j hj
  have : j = 0 ∨ j = 1 ∨ j = 2 ∨ j = 3 ∨ j = 4 ∨ j = 5 ∨ j = 6 ∨ j = 7 ∨ j = 8 ∨ j = 9 ∨ j = 10 ∨ j = 11 ∨ j = 12 ∨ j = 13 ∨ j = 14 ∨ j = 15 ∨ j = 16 ∨ j = 17 ∨ j = 18 ∨ j = 19 ∨ j = 20 ∨ j = 21 ∨ j = 22 ∨ j = 23 ∨ j = 24 ∨ j = 25 ∨ j = 26 ∨ j = 27 ∨ j = 28 ∨ j = 29 ∨ j = 30 ∨ j = 31 ∨ j = 32 ∨ j = 33 ∨ j = 34 ∨ j = 35 ∨ j = 36 ∨ j = 37 ∨ j = 38 ∨ j = 39 ∨ j = 40 ∨ j = 41 ∨ j = 42 ∨ j = 43 ∨ j = 44 ∨ j = 45 ∨ j = 46 ∨ j = 47 ∨ j = 48 ∨ j = 49 ∨ j = 50 ∨ j = 51 ∨ j = 52 ∨ j = 53 ∨ j = 54 ∨ j = 55 ∨ j = 56 ∨ j = 57 ∨ j = 58 ∨ j = 59 ∨ j = 60 ∨ j = 61 ∨ j = 62 ∨ j = 63 ∨ j = 64 ∨ j = 65 ∨ j = 66 ∨ j = 67 ∨ j = 68 ∨ j = 69 := by omega
  rcases this with rfl | rfl | rfl | rfl | rfl | rfl | rfl | rfl | rfl | rfl | rfl | rfl | rfl | rfl | rfl | rfl | rfl | rfl | rfl | rfl | rfl | rfl | rfl | rfl | rfl | rfl | rfl | rfl | rfl | rfl | rfl | rfl | rfl | rfl | rfl | rfl | rfl | rfl | rfl | rfl | rfl | rfl | rfl | rfl | rfl | rfl | rfl | rfl | rfl | rfl | rfl | rfl | rfl | rfl | rfl | rfl | rfl | rfl | rfl | rfl | rfl | rfl | rfl | rfl | rfl | rfl | rfl | rfl | rfl | rfl
  · exact leave_false_0
  · exact leave_false_1
  · exact leave_false_2
  · exact leave_false_3
  · exact leave_false_4
  · exact leave_false_5
  · exact leave_false_6
  · exact leave_false_7
  · exact leave_false_8
  · exact leave_false_9
  · exact leave_false_10
  · exact leave_false_11
  · exact leave_false_12
  · exact leave_false_13
  · exact leave_false_14
  · exact leave_false_15
  · exact leave_false_16
  · exact leave_false_17
  · exact leave_false_18
  · exact leave_false_19
  · exact leave_false_20
  · exact leave_false_21
  · exact leave_false_22
  · exact leave_false_23
  · exact leave_false_24
  · exact leave_false_25
  · exact leave_false_26
  · exact leave_false_27
  · exact leave_false_28
  · exact leave_false_29
  · exact leave_false_30
  · exact leave_false_31
  · exact leave_false_32
  · exact leave_false_33
  · exact leave_false_34
  · exact leave_false_35
  · exact leave_false_36
  · exact leave_false_37
  · exact leave_false_38
  · exact leave_false_39
  · exact leave_false_40
  · exact leave_false_41
  · exact leave_false_42
  · exact leave_false_43
  · exact leave_false_44
  · exact leave_false_45
  · exact leave_false_46
  · exact leave_false_47
  · exact leave_false_48
  · exact leave_false_49
  · exact leave_false_50
  · exact leave_false_51
  · exact leave_false_52
  · exact leave_false_53
  · exact leave_false_54
  · exact leave_false_55
  · exact leave_false_56
  · exact leave_false_57
  · exact leave_false_58
  · exact leave_false_59
  · exact leave_false_60
  · exact leave_false_61
  · exact leave_false_62
  · exact leave_false_63
  · exact leave_false_64
  · exact leave_false_65
  · exact leave_false_66
  · exact leave_false_67
  · exact leave_false_68
  · exact leave_false_69
theorem olds_ft : ∀ j, j < 70 → Old false true j := by
  intro j hj
  have : j = 0 ∨ j = 1 ∨ j = 2 ∨ j = 3 ∨ j = 4 ∨ j = 5 ∨ j = 6 ∨ j = 7 ∨ j = 8 ∨ j = 9 ∨ j = 10 ∨ j = 11 ∨ j = 12 ∨ j = 13 ∨ j = 14 ∨ j = 15 ∨ j = 16 ∨ j = 17 ∨ j = 18 ∨ j = 19 ∨ j = 20 ∨ j = 21 ∨ j = 22 ∨ j = 23 ∨ j = 24 ∨ j = 25 ∨ j = 26 ∨ j = 27 ∨ j = 28 ∨ j = 29 ∨ j = 30 ∨ j = 31 ∨ j = 32 ∨ j = 33 ∨ j = 34 ∨ j = 35 ∨ j = 36 ∨ j = 37 ∨ j = 38 ∨ j = 39 ∨ j = 40 ∨ j = 41 ∨ j = 42 ∨ j = 43 ∨ j = 44 ∨ j = 45 ∨ j = 46 ∨ j = 47 ∨ j = 48 ∨ j = 49 ∨ j = 50 ∨ j = 51 ∨ j = 52 ∨ j = 53 ∨ j = 54 ∨ j = 55 ∨ j = 56 ∨ j = 57 ∨ j = 58 ∨ j = 59 ∨ j = 60 ∨ j = 61 ∨ j = 62 ∨ j = 63 ∨ j = 64 ∨ j = 65 ∨ j = 66 ∨ j = 67 ∨ j = 68 ∨ j = 69 := by omega
  rcases this with rfl | rfl | rfl | rfl | rfl | rfl | rfl | rfl | rfl | rfl | rfl | rfl | rfl | rfl | rfl | rfl | rfl | rfl | rfl | rfl | rfl | rfl | rfl | rfl | rfl | rfl | rfl | rfl | rfl | rfl | rfl | rfl | rfl | rfl | rfl | rfl | rfl | rfl | rfl | rfl | rfl | rfl | rfl | rfl | rfl | rfl | rfl | rfl | rfl | rfl | rfl | rfl | rfl | rfl | rfl | rfl | rfl | rfl | rfl | rfl | rfl | rfl | rfl | rfl | rfl | rfl | rfl | rfl | rfl | rfl
  · exact old_false_true_0
  · exact old_false_true_1
  · exact old_false_true_2
  · exact old_false_true_3
  · exact old_false_true_4
  · exact old_false_true_5
  · exact old_false_true_6
  · exact old_false_true_7
  · exact old_false_true_8
  · exact old_false_true_9
  · exact old_false_true_10
  · exact old_false_true_11
  · exact old_false_true_12
  · exact old_false_true_13
  · exact old_false_true_14
  · exact old_false_true_15
  · exact old_false_true_16
  · exact old_false_true_17
  · exact old_false_true_18
  · exact old_false_true_19
  · exact old_false_true_20
  · exact old_false_true_21
  · exact old_false_true_22
  · exact old_false_true_23
  · exact old_false_true_24
  · exact old_false_true_25
  · exact old_false_true_26
  · exact old_false_true_27
  · exact old_false_true_28
  · exact old_false_true_29
  · exact old_false_true_30
  · exact old_false_true_31
  · exact old_false_true_32
  · exact old_false_true_33
  · exact old_false_true_34
  · exact old_false_true_35
  · exact old_false_true_36
  · exact old_false_true_37
  · exact old_false_true_38
  · exact old_false_true_39
  · exact old_false_true_40
  · exact old_false_true_41
  · exact old_false_true_42
  · exact old_false_true_43
  · exact old_false_true_44
  · exact old_false_true_45
  · exact old_false_true_46
  · exact old_false_true_47
  · exact old_false_true_48
  · exact old_false_true_49
  · exact old_false_true_50
  · exact old_false_true_51
  · exact old_false_true_52
  · exact old_false_true_53
  · exact old_false_true_54
  · exact old_false_true_55
  · exact old_false_true_56
  · exact old_false_true_57
  · exact old_false_true_58
  · exact old_false_true_59
  · exact old_false_true_60
  · exact old_false_true_61
  · exact old_false_true_62
  · exact old_false_true_63
  · exact old_false_true_64
  · exact old_false_true_65
  · exact old_false_true_66
  · exact old_false_true_67
  · exact old_false_true_68
  · exact old_false_true_69
theorem olds_ff : ∀ j, j < 70 → Old false false j := by
  intro j hj
  have : j = 0 ∨ j = 1 ∨ j = 2 ∨ j = 3 ∨ j = 4 ∨ j = 5 ∨ j = 6 ∨ j = 7 ∨ j = 8 ∨ j = 9 ∨ j = 10 ∨ j = 11 ∨ j = 12 ∨ j = 13 ∨ j = 14 ∨ j = 15 ∨ j = 16 ∨ j = 17 ∨ j = 18 ∨ j = 19 ∨ j = 20 ∨ j = 21 ∨ j = 22 ∨ j = 23 ∨ j = 24 ∨ j = 25 ∨ j = 26 ∨ j = 27 ∨ j = 28 ∨ j = 29 ∨ j = 30 ∨ j = 31 ∨ j = 32 ∨ j = 33 ∨ j = 34 ∨ j = 35 ∨ j = 36 ∨ j = 37 ∨ j = 38 ∨ j = 39 ∨ j = 40 ∨ j = 41 ∨ j = 42 ∨ j = 43 ∨ j = 44 ∨ j = 45 ∨ j = 46 ∨ j = 47 ∨ j = 48 ∨ j = 49 ∨ j = 50 ∨ j = 51 ∨ j = 52 ∨ j = 53 ∨ j = 54 ∨ j = 55 ∨ j = 56 ∨ j = 57 ∨ j = 58 ∨ j = 59 ∨ j = 60 ∨ j = 61 ∨ j = 62 ∨ j = 63 ∨ j = 64 ∨ j = 65 ∨ j = 66 ∨ j = 67 ∨ j = 68 ∨ j = 69 := by omega
  rcases this with rfl | rfl | rfl | rfl | rfl | rfl | rfl | rfl | rfl | rfl | rfl | rfl | rfl | rfl | rfl | rfl | rfl | rfl | rfl | rfl | rfl | rfl | rfl | rfl | rfl | rfl | rfl | rfl | rfl | rfl | rfl | rfl | rfl | rfl | rfl | rfl | rfl | rfl | rfl | rfl | rfl | rfl | rfl | rfl | rfl | rfl | rfl | rfl | rfl | rfl | rfl | rfl | rfl | rfl | rfl | rfl | rfl | rfl | rfl | rfl | rfl | rfl | rfl | rfl | rfl | rfl | rfl | rfl | rfl | rfl
  · exact old_false_false_0
  · exact old_false_false_1
  · exact old_false_false_2
  · exact old_false_false_3
  · exact old_false_false_4
  · exact old_false_false_5
  · exact old_false_false_6
  · exact old_false_false_7
  · exact old_false_false_8
  · exact old_false_false_9
  · exact old_false_false_10
  · exact old_false_false_11
  · exact old_false_false_12
  · exact old_false_false_13
  · exact old_false_false_14
  · exact old_false_false_15
  · exact old_false_false_16
  · exact old_false_false_17
  · exact old_false_false_18
  · exact old_false_false_19
  · exact old_false_false_20
  · exact old_false_false_21
  · exact old_false_false_22
  · exact old_false_false_23
  · exact old_false_false_24
  · exact old_false_false_25
  · exact old_false_false_26
  · exact old_false_false_27
  · exact old_false_false_28
  · exact old_false_false_29
  · exact old_false_false_30
  · exact old_false_false_31
  · exact old_false_false_32
  · exact old_false_false_33
  · exact old_false_false_34
  · exact old_false_false_35
  · exact old_false_false_36
  · exact old_false_false_37
  · exact old_false_false_38
  · exact old_false_false_39
  · exact old_false_false_40
  · exact old_false_false_41
  · exact old_false_false_42
  · exact old_false_false_43
  · exact old_false_false_44
  · exact old_false_false_45
  · exact old_false_false_46
  · exact old_false_false_47
  · exact old_false_false_48
  · exact old_false_false_49
  · exact old_false_false_50
  · exact old_false_false_51
  · exact old_false_false_52
  · exact old_false_false_53
  · exact old_false_false_54
  · exact old_false_false_55
  · exact old_false_false_56
  · exact old_false_false_57
  · exact old_false_false_58
  · exact old_false_false_59
  · exact old_false_false_60
  · exact old_false_false_61
  · exact old_false_false_62
  · exact old_false_false_63
  · exact old_false_false_64
  · exact old_false_false_65
  · exact old_false_false_66
  · exact old_false_false_67
  · exact old_false_false_68
  · exact old_false_false_69

theorem grows (h : Bool) (j : Nat) (hj : j < 70) : Grow h j := by cases h; exact grows_f j hj; exact grows_t j hj
theorem leaves (h : Bool) (j : Nat) (hj : j < 70) : Leave h j := by cases h; exact leaves_f j hj; exact leaves_t j hj
theorem olds (h t : Bool) (j : Nat) (hj : j < 70) : Old h t j := by
  cases h <;> cases t
  · exact olds_ff j hj
  · exact olds_ft j hj
  · exact olds_tf j hj
  · exact olds_tt j hj
theorem fins (h t : Bool) : clast? Try.prog (O3 h t) (EO (O3 h t)) (sum3 (O3 h t)) 40000 3000 (snSt (snOld h)) = true := by
  cases h <;> cases t
  · exact fin_ff
  · exact fin_ft
  · exact fin_tf
  · exact fin_tt
theorem fin0s (h t : Bool) : clast? Try.prog (O0 t) (EO (O0 t)) (sum0 (O0 t)) 40000 3000 (snSt (snCf h 0)) = true := by
  cases h <;> cases t
  · exact fin0_ff
  · exact fin0_ft
  · exact fin0_tf
  · exact fin0_tt
theorem starts (h : Bool) (k : Nat) (hk : k < 3) : Start h k := by
  have : k = 0 ∨ k = 1 ∨ k = 2 := by omega
  cases h
  · rcases this with rfl | rfl | rfl
    · exact start_f0
    · exact start_f1
    · exact start_f2
  · rcases this with rfl | rfl | rfl
    · exact start_t0
    · exact start_t1
    · exact start_t2
theorem rens (h : Bool) (k : Nat) (hk : k < 3) : IsRen (sA k) (snA h k) (snCf h 0) := by
  have : k = 0 ∨ k = 1 ∨ k = 2 := by omega
  cases h
  · rcases this with rfl | rfl | rfl
    · exact ren_f0
    · exact ren_f1
    · exact ren_f2
  · rcases this with rfl | rfl | rfl
    · exact ren_t0
    · exact ren_t1
    · exact ren_t2
theorem lows (h : Bool) : cfgLow 103 (snCf h 0) = true := by cases h; exact low_f; exact low_t
theorem noq3 (h t : Bool) : (O3 h t).noq 7777 = true := by cases h; exact noq3_f t; exact noq3_t t

/-! ### Summaries -/
theorem orS_ok {K : Ctx} {main : Bool} {a b : Sums} (ha : SumOk K main a) (hb : SumOk K main b) : SumOk K main (orS a b) := by
  intro f args hh r hs
  unfold orS at hs
  split at hs
  · rename_i r' hr
    cases hs
    exact ha f args hh _ hr
  · exact hb f args hh r hs

theorem sum0_ok {O : Orc} (e1 : O.fns = fns) (e2 : O.ext = ext) (e3 : O.offs = offs) (e4 : O.noq 7777 = true) : ∀ own Ev lock still main, (⟨Try.prog, O, own, Ev, lock, still⟩ : Ctx).Good → SumOk ⟨Try.prog, O, own, Ev, lock, still⟩ main (sum0 O) := by
  have F : ∀ own Ev lock still, (⟨Try.prog, O, own, Ev, lock, still⟩ : Ctx).Facts := fun own Ev lock still => by
    obtain ⟨bs, is, mem, fs, ex, sm, of⟩ := O
    cases e1; cases e2
    exact ⟨fns_ok, ext_facts, mixed⟩
  have X : ∀ own Ev lock still, (⟨Try.prog, O, own, Ev, lock, still⟩ : Ctx).Good → ExtOk ⟨Try.prog, O, own, Ev, lock, still⟩ (EO O) := fun _ _ _ _ G => ext_ok G (.inr tabC_quiet) tabC_facts
  have hof : OffsOk Try.prog O := by intro p hp; rw [e3] at hp; exact offs_facts p hp
  have M : ∀ own Ev lock still main, (⟨Try.prog, O, own, Ev, lock, still⟩ : Ctx).Good → SumOk ⟨Try.prog, O, own, Ev, lock, still⟩ main (mk3 O) := fun own Ev lock still main G => markSum_ok (K := ⟨Try.prog, O, own, Ev, lock, still⟩) G (F own Ev lock still) (X own Ev lock still G) noSums_ok hof
  intro own Ev lock still main G
  exact orS_ok (rfSum_ok e4 F X M own Ev lock still main G) (M own Ev lock still main G)

theorem sound0 (t : Bool) : CrewSound Try.prog (O0 t) (EO (O0 t)) (sum0 (O0 t)) :=
  ⟨fun _ _ _ _ => ⟨fns_ok, ext_facts, mixed⟩, fun _ _ _ _ G => ext_ok G (.inr tabC_quiet) tabC_facts, offs_facts, sum0_ok rfl rfl rfl (noq0 t)⟩
theorem sound3 (h t : Bool) : CrewSound Try.prog (O3 h t) (EO (O3 h t)) (sum3 (O3 h t)) :=
  ⟨fun _ _ _ _ => ⟨fns_ok, ext_facts, mixed⟩, fun _ _ _ _ G => ext_ok G (.inr tabC_quiet) tabC_facts, offs_facts, fun own Ev lock still main G =>
    orS_ok (oneSum_ok (h := h) G (fun p hp => List.mem_append_right _ hp) List.mem_cons_self) (sum0_ok rfl rfl rfl (noq3 h t) own Ev lock still main G)⟩

/-! ### What is known of the numbers -/
noncomputable def clsN (n : Nat) (t : Bool) : List (BE × Bool) := match n with
  | 0 => ltB 0 false ++ mostB t
  | j + 1 => clsB j t
noncomputable def begB (k n : Nat) (t : Bool) : List (BE × Bool) := startB k ++ (clsN n t).map fun p => (p.1.ren (sA k), p.2)

theorem cls_mem {n : Nat} {t : Bool} {p : BE × Bool} (hp : p ∈ clsN n t) : p = (.cmp .lss (.var 4) (.lit 1), t) ∨ ∃ k, p = (.cmp .lss (.lit (.ofNat k)) v3, decide (k < n)) := by
  cases n with
  | zero =>
    simp only [clsN, ltB, mostB, List.mem_append, List.mem_singleton] at hp
    rcases hp with rfl | rfl
    · exact .inr ⟨0, by simp⟩
    · exact .inl rfl
  | succ j =>
    simp only [clsN, clsB, mostB, List.mem_append, List.mem_singleton, List.mem_flatMap, List.mem_range] at hp
    rcases hp with rfl | hp | ⟨k, hk, hp⟩
    · exact .inl rfl
    · simp only [ltB, List.mem_singleton] at hp
      subst hp
      exact .inr ⟨j + 1, by simp⟩
    · simp only [ltB, List.mem_singleton] at hp
      subst hp
      exact .inr ⟨k, by simp [hk]⟩
theorem lt_mem {n k : Nat} {t : Bool} (hk : k < n) : (.cmp .lss (.lit (.ofNat k)) v3, true) ∈ clsN n t := by
  cases n with
  | zero => omega
  | succ j => exact List.mem_append_right _ (List.mem_append_right _ (List.mem_flatMap.2 ⟨k, List.mem_range.2 hk, List.mem_singleton.2 rfl⟩))
theorem end_mem {j : Nat} {t : Bool} : (.cmp .lss (.lit (.ofNat (j + 1))) v3, false) ∈ clsN (j + 1) t := List.mem_append_right _ (List.mem_append_left _ (List.mem_singleton.2 rfl))

theorem cls_low (n : Nat) (t : Bool) : ((clsN n t).all fun p => p.1.low 103) = true := by
  rw [List.all_eq_true]
  intro p hp
  rcases cls_mem hp with rfl | ⟨k, rfl⟩ <;> rfl

theorem lowO (n : Nat) (t : Bool) : (OB (clsN n t) []).low 103 = true := by
  have h := cls_low n t
  show ((clsN n t).all (fun p => p.1.low 103) && true && true) = true
  rw [h]; rfl

theorem le_of {l l' : List (BE × Bool)} (h : ∀ p ∈ l', p ∈ l) : OrcLe (OB l' []) (OB l []) := ⟨h, fun p hp => hp, rfl, rfl⟩

theorem v3_ren (k : Nat) : (v3.ren (sA k)) = match k with
  | 0 => v1
  | 1 => .lit 70
  | _ => .lit 70 := by
  rcases k with _ | _ | k <;> rfl

/-! ### The way -/
theorem sn_runs (h t : Bool) {k n : Nat} (hk : k < 3) (hn : n ≤ 70) {base : Nat} {W0 : World} {m : Machine} {T : Trace} (I : CInv Try.prog (OB (begB k n t) []) base W0 [] (snSt ⟨snFr5 h, [], h0⟩) m T) :
    ∃ O' ext' sum' N m' T' st' f base' W1, CrewSound Try.prog O' ext' sum' ∧ runNT Try.prog N m T = (.next m', T') ∧ (base ≤ base' ∧ Keeps (fun n => base ≤ n) W0 W1) ∧ CInv Try.prog O' base' W1 [] st' m' T' ∧ crew1? Try.prog O' ext' sum' f st' = .ok (.inr (.bool (.lit true))) := by
  obtain ⟨N1, m1, T1, r1, I1⟩ := mchunk_ok (sound (begB k n t) []) (sound (startB k) []) (le_of fun p hp => List.mem_append_left _ hp) (starts h k hk) I
  have ho : OrcRen (sA k) (OB (begB k n t) []) (OB (clsN n t) []) := ⟨fun p hp => List.mem_append_right _ (List.mem_map.2 ⟨p, hp, rfl⟩), fun p hp => (by cases hp), fun p hp => (by cases hp)⟩
  cases n with
  | zero =>
    have ho' : OrcRen (sA k) (OB (begB k 0 t) []) (O0 t) := ⟨ho.bs, fun p hp => (by cases hp), fun p hp => (by cases hp)⟩
    have I2 := cinv_ren (rens h k hk) ho' (lows h) (by cases h <;> rfl) (lowO 0 t) I1
    obtain ⟨N2, m2, T2, st2, f2, r2, I3, hend⟩ := cruns_ok (sound0 t) (.last _ _ _ (fin0s h t)) I2
    exact ⟨_, _, _, N1 + N2, m2, T2, st2, f2, base, W0, sound0 t, runNT_then r1 r2, ⟨Nat.le_refl _, Keeps.refl _ _⟩, I3, hend⟩
  | succ j =>
    have I2 := cinv_ren (rens h k hk) ho (lows h) (by cases h <;> rfl) (lowO (j + 1) t) I1
    have go : ∀ i, i ≤ j + 1 → ∃ N m' T', runNT Try.prog N m T = (.next m', T') ∧ CInv Try.prog (OB (clsN (j + 1) t) []) base W0 [] (snSt (snCf h i)) m' T' := by
      intro i
      induction i with
      | zero => exact fun _ => ⟨N1, m1, T1, r1, I2⟩
      | succ i ih =>
        intro hi
        obtain ⟨N, m', T', r, I'⟩ := ih (by omega)
        obtain ⟨N', m'', T'', r', I''⟩ := mchunk_ok (sound (clsN (j + 1) t) []) (sound (ltB i true) []) (le_of fun p hp => by
          rw [List.mem_singleton.1 hp]
          exact lt_mem (by omega)) (grows h i (by omega)) I'
        exact ⟨N + N', m'', T'', runNT_then r r', I''⟩
    obtain ⟨N3, m3, T3, r3, I3⟩ := go (j + 1) (Nat.le_refl _)
    obtain ⟨N4, m4, T4, r4, I4⟩ := mchunk_ok (sound (clsN (j + 1) t) []) (sound (ltB (j + 1) false) []) (le_of fun p hp => by
      rw [List.mem_singleton.1 hp]
      exact end_mem) (leaves h j (by omega)) I3
    obtain ⟨base', W1, hb, I5⟩ := cinv_freeze (olds h t j (by omega)) I4
    obtain ⟨N6, m6, T6, st6, f6, r6, I6, hend⟩ := cruns_ok (sound3 h t) (.last _ _ _ (fins h t)) I5
    exact ⟨_, _, _, N3 + N4 + N6, m6, T6, st6, f6, base', W1, sound3 h t, runNT_then (runNT_then r3 r4) r6, hb, I6, hend⟩

def GoodSN (args : Array Value) (W : World) : Prop :=
  ∃ M last o w' t', runNT Try.prog (M + 1) (solo (G (Frame.enter Try.prog 5 args .normal) []) W) #[] = (.ended o w', t') ∧ runN Try.prog M (solo (G (Frame.enter Try.prog 5 args .normal) []) W) = .next last ∧
      step Try.prog last = .ended o w' ∧ Conc.Good Try.prog (fun v W' => v = .bool true ∧ Keeps (fun n => W.heap.size ≤ n) W W') last o w' t'

theorem sn_good (h t : Bool) {k n : Nat} (hk : k < 3) (hn : n ≤ 70) (W : World) (ρ : Env) (hbs : ∀ p ∈ begB k n t, p.1.ev ρ = p.2) : GoodSN (AV.evs ρ (snArg h)).toArray W := by
  have v1 : (IE.var 1).In Low := (by decide : (1 : Nat) < 100)
  have v2 : (IE.var 2).In Low := (by decide : (2 : Nat) < 100)
  have v4 : (IE.var 4).In Low := (by decide : (4 : Nat) < 100)
  have hin : ∀ p ∈ begB k n t, p.1.In Low := by
    intro p hp
    rcases List.mem_append.1 hp with hp | hp
    · rcases k with _ | _ | k <;> simp only [startB, List.mem_cons, List.not_mem_nil, or_false] at hp
      · rcases hp with rfl | rfl <;> exact ⟨v1, trivial⟩
      · subst hp; exact ⟨v1, trivial⟩
      · rcases hp with rfl | rfl <;> exact ⟨v1, trivial⟩
    · obtain ⟨q, hq, rfl⟩ := List.mem_map.1 hp
      rcases cls_mem hq with rfl | ⟨i, rfl⟩
      · rcases k with _ | _ | k <;> exact ⟨v4, trivial⟩
      · rcases k with _ | _ | k
        · exact ⟨trivial, v1⟩
        · exact ⟨trivial, trivial⟩
        · exact ⟨trivial, trivial⟩
  exact crew_run_frz' (sn5 h) (idsB W ρ hin (fun p hp => by cases hp)) (show AV.Ins Low (snArg h) from ⟨v1, v2, v4, trivial, trivial⟩) (relB ρ hbs (fun p hp => by cases hp)) (fun p hp => by cases hp) (sn_runs h t hk hn)

theorem stealNone_run (a b c : Int) (h : Bool) (W : World) : GoodSN #[.int .i64 a, .int .i64 b, .int .i64 c, .bool h] W := by
  have key : ∃ (k n : Nat), k < 3 ∧ n ≤ 70 ∧ ∀ p ∈ begB k n (decide (c < 1)), p.1.ev (env [a, b, 0, c] []) = p.2 := by
    by_cases h0 : a < 0
    · refine ⟨1, 70, by omega, by omega, fun p hp => ?_⟩
      rcases List.mem_append.1 hp with hp | hp
      · simp only [startB, List.mem_cons, List.not_mem_nil, or_false] at hp
        subst hp
        exact decide_eq_true h0
      · obtain ⟨q, hq, rfl⟩ := List.mem_map.1 hp
        rcases cls_mem hq with rfl | ⟨i, rfl⟩
        · rfl
        · show decide ((Int.ofNat i) < (70 : Int)) = decide (i < 70)
          exact decide_eq_decide.2 (by simp only [Int.ofNat_eq_natCast]; omega)
    · by_cases h1 : a > 70
      · refine ⟨2, 70, by omega, by omega, fun p hp => ?_⟩
        rcases List.mem_append.1 hp with hp | hp
        · simp only [startB, List.mem_cons, List.not_mem_nil, or_false] at hp
          rcases hp with rfl | rfl
          · exact decide_eq_false h0
          · exact decide_eq_true h1
        · obtain ⟨q, hq, rfl⟩ := List.mem_map.1 hp
          rcases cls_mem hq with rfl | ⟨i, rfl⟩
          · rfl
          · show decide ((Int.ofNat i) < (70 : Int)) = decide (i < 70)
            exact decide_eq_decide.2 (by simp only [Int.ofNat_eq_natCast]; omega)
      · refine ⟨0, a.toNat, by omega, by omega, fun p hp => ?_⟩
        rcases List.mem_append.1 hp with hp | hp
        · simp only [startB, List.mem_cons, List.not_mem_nil, or_false] at hp
          rcases hp with rfl | rfl
          · exact decide_eq_false h0
          · exact decide_eq_false h1
        · obtain ⟨q, hq, rfl⟩ := List.mem_map.1 hp
          rcases cls_mem hq with rfl | ⟨i, rfl⟩
          · rfl
          · show decide ((Int.ofNat i) < a) = decide (i < a.toNat)
            exact decide_eq_decide.2 (by simp only [Int.ofNat_eq_natCast]; omega)
  obtain ⟨k, n, hk, hn, hbs⟩ := key
  exact sn_good h (decide (c < 1)) hk hn W (env [a, b, 0, c] []) hbs

theorem stealNone_lifted (os : Os) (started : os.Started) (H : Type) (enc : TypeId × Value → H) (F : Stop.Interp) :
    ReturnsInLeavingWide { calm := true } Try.checked os 5 .any (Rows.stealNoneSpec.pre6 enc Try.prog Try.f5 Rows.stealNoneRow.domain false) ((OpenSpec.ofChange Rows.stealNoneSpec).postWith enc Try.prog Try.f5 F (outsideKept [.timePasses]) false true false) := by
  refine returnsInLeavingWide_of_change_time (C := Try.checked) Try.own started Try.func5
    (ChangeSpec.witness6c (enc := enc) (C := Try.checked) ⟨#[], #[.int .i64 0, .int .i64 0, .int .i64 0, .bool false], []⟩ 8 (by kernel_rfl) (by kernel_rfl) (by kernel_rfl) (by kernel_rfl)) ?_
  intro W base args ds gs before hval0 hW _ _ _
  have hval : ∀ (j : Nat) t v, Try.f5.params[j]? = some t → args[j]? = some v → Value.okWide Try.prog W .any base t v := hval0
  have hW' := hW
  obtain ⟨p, q, hA0, hV, rfl, _, _⟩ := hW
  have hA : DataW.TrodAll enc Try.prog W 0 (fun _ => true) true Try.f5.params.toList args.toList ds p := hA0
  rw [Try.params5] at hA hval
  obtain ⟨v0, v1, v2, v3, d0, d1, d2, d3, p0, p1, p2, p3, rfl, rfl, rfl, h0, h1, h2, h3⟩ := trodAll_four hA
  obtain ⟨rfl, rfl⟩ := trodVars_none hV
  obtain ⟨a, rfl, rfl, rfl, wa⟩ := open_int Try.underlying3 (hval 0 3 v0 rfl rfl) h0
  obtain ⟨b, rfl, rfl, rfl, wb⟩ := open_int Try.underlying3 (hval 1 3 v1 rfl rfl) h1
  obtain ⟨c, rfl, rfl, rfl, wc⟩ := open_int Try.underlying3 (hval 2 3 v2 rfl rfl) h2
  obtain ⟨h, rfl, rfl, rfl⟩ := open_bool Try.underlying4 (hval 3 4 v3 rfl rfl) h3
  clear hA0 hval0
  simp only [List.append_nil] at hW'
  obtain ⟨M, last, o, w', t', r1, r2, r3, r4⟩ := stealNone_run a b c h W
  refine ⟨M, last, o, w', t', r1, r2, r3, r4.mono fun r hF => ?_⟩
  obtain ⟨rfl, hk⟩ := hF
  have ew : ({ w' with os := W.os } : World) = w' := by rw [← hk.os]
  rw [ew]
  refine ⟨⟨_, _, _, [], _, [], hW', trodAll_mk1 (shut_bool Try.underlying4 true), trodAll_mk4 (shut_int Try.underlying3 wa) (shut_int Try.underlying3 wb) (shut_int Try.underlying3 wc) (shut_bool Try.underlying4 h), rfl, kept hk, fun h => by cases h⟩, by rw [hk.os]; exact ConcM.OsLater.refl _⟩

theorem stealNone_holds : Rows.StealNoneSaid :=
  OpenClaim.holds_of_wide_leaving_time 5 Try.f5 rfl rfl rfl rfl rfl rfl rfl ⟨rfl, rfl, rfl, rfl, rfl⟩ rfl rfl rfl rfl rfl (by kernel_rfl) Try.func5 (by kernel_rfl)
    (of_decide_eq_true (by kernel_rfl)) (by unfold Func.isWrapper; first | (rw [if_pos (by decide +kernel)]; kernel_rfl) | (rw [if_neg (by decide +kernel)]; exact ⟨rfl, rfl⟩))
    (fun os started H enc _ F => stealNone_lifted os started H enc F)

end Go.Proofs.Ytcpiafgkmakdiaa
